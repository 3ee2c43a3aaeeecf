/- The machine walks the functions that FnVectors reaches as the plain functions say. -/
import Derived.Test.YtogpbandlpjccaaGreatProg
import Derived.Test.YtogpbandlpjccaaGreatRxG
import Derived.Test.YtogpbandlpjccaaGreatRxO
import Derived.Test.YtogpbandlpjccaaGreatP18
import Derived.Test.YtogpbandlpjccaaGreatDV
import Derived.Test.YtogpbandlpjccaaGreatBO
import Derived.Laws.Externs
import Derived.Test.YtogpbandlpjccaaGreatLen64
set_option linter.unusedVariables false
set_option linter.unusedSimpArgs false
set_option maxRecDepth 100000
namespace Go.G880
open Go Go.RX Go.Proofs.YtogpbandlpjccaaGreat.TX
def laws_d8Long (code : List Value) (more : List Value) : Bool := bif decide ((code.length : Int) > 1048576) then true else (decide ((more.length : Int) > 1048576))
def laws_d8Fix (n : Int) : Iv := (Iv.mk n n)
def laws_FnVectors (d : List Value) (i : List Value) : Bool := bif (laws_d8Long d i) then true else (let t2 := (spec_E8Vec d); let t3 := (spec_E8Vec i); let t4 := (impl_CrossV t2 t3); bif (!(spec_HasI (impl_DotV t2 t4) 0)) then false else (bif (!(spec_HasI (impl_DotV t3 t4) 0)) then false else (bif (!(spec_OverlapI (spec_AddI (spec_SqrI (impl_NormV t4)) (spec_SqrI (impl_DotV t2 t3))) (spec_MulI (spec_SqrI (impl_NormV t2)) (spec_SqrI (impl_NormV t3))))) then false else (let t21 := (laws_d8Fix (spec_E8Fix i 34359738368)); let t22 := (impl_NormV t2); bif (!(spec_OverlapI (impl_NormV (impl_TurnX t2 t21)) t22)) then false else (bif (!(spec_OverlapI (impl_NormV (impl_TurnY t2 t21)) t22)) then false else (bif (!(spec_OverlapI (impl_NormV (impl_TurnZ t2 t21)) t22)) then false else (bif (impl_OverlapV (impl_TurnZ (impl_TurnZ t2 t21) (spec_NegI t21)) t2) then (bif (spec_OverlapI (impl_NormV (impl_UnitV t2)) (spec_Integer 1)) then ((spec_SameVec (impl_SubV (impl_AddV t2 t3) t3) (spec_SubV (spec_AddV t2 t3) t3))) else false) else false)))))))
end Go.G880
namespace Go.Proofs.YtogpbandlpjccaaGreat
open Go Go.RX Go.G880 Go.Proofs Go.Proofs.YtogpbandlpjccaaGreat.TX
theorem hmix : Tryz.prog.follows .mixedOrders = true := by kernel_rfl
/-! ### laws.d8Long -/
def laws_d8Long.t {ρ : Type} (code : List Value) (more : List Value) (K : Bool → Option ρ) : Option ρ := bif decide ((code.length : Int) > 1048576) then (K true) else (K (decide ((more.length : Int) > 1048576)))
theorem laws_d8Long.t_eq {ρ : Type} (code : List Value) (more : List Value) (K : Bool → Option ρ) : laws_d8Long.t code more K = K (laws_d8Long code more) := cq (fun h0 => rfl) (fun h0 => rfl)
theorem laws_d8Long.gives (code : List Value) (more : List Value) : GivesA Tryz.prog 4 [(aL (.int .u8 0) 5).enc code, (aL (.int .u8 0) 5).enc more] (cBool.enc (laws_d8Long code more)) :=
  givesA_L hmix [] 0 none noL Tryz.func4 rfl (fun _ _ => noL_ok) ((by kernel_rfl : run1 Tryz.prog (tab []) 0 none noL Tryz.f4 (argVals 0 [(aL (.int .u8 0) 5).enc code, (aL (.int .u8 0) 5).enc more]) (argBlocks [(aL (.int .u8 0) 5).enc code, (aL (.int .u8 0) 5).enc more]) = laws_d8Long.t code more fun r => some (cBool.enc r, argBlocks [(aL (.int .u8 0) 5).enc code, (aL (.int .u8 0) 5).enc more])).trans (laws_d8Long.t_eq code more _))
def laws_d8Long.e : Entry Tryz.prog := entryA2 (aL (.int .u8 0) 5) (aL (.int .u8 0) 5) cBool 4 laws_d8Long (fun code more => true) (fun code more h => laws_d8Long.gives code more)

/-! ### spec.E8Vec -/


/-! ### impl.ValidInterval -/
def impl_ValidInterval.t {ρ : Type} (i : Iv) (K : Bool → Option ρ) : Option ρ := bif decide ((-1152921504606846976) < i.lo) then (bif decide (i.lo ≤ i.hi) then (K (decide (i.hi < 1152921504606846976))) else (K false)) else (K false)
theorem impl_ValidInterval.t_eq {ρ : Type} (i : Iv) (K : Bool → Option ρ) : impl_ValidInterval.t i K = K (impl_ValidInterval i) := cq (fun h0 => cq (fun h1 => rfl) (fun h1 => rfl)) (fun h0 => rfl)
theorem impl_ValidInterval.gives (i : Iv) : GivesV Tryz.prog 63 [cIv.enc i] (cBool.enc (impl_ValidInterval i)) :=
  givesT hmix [] 0 none Tryz.func63 rfl rfl ((by kernel_rfl : run1 Tryz.prog (tab []) 0 none noL Tryz.f63 [cIv.enc i] [] = impl_ValidInterval.t i fun r => some (cBool.enc r, [])).trans (impl_ValidInterval.t_eq i _))
def impl_ValidInterval.e : Entry Tryz.prog := entry1 cIv cBool 63 impl_ValidInterval impl_ValidInterval.gives

/-! ### impl.areBounded -/
def impl_areBounded.t {ρ : Type} (a : Iv) (b : Iv) (K : Bool → Option ρ) : Option ρ := bif (impl_ValidInterval a) then (K (impl_ValidInterval b)) else (K false)
theorem impl_areBounded.t_eq {ρ : Type} (a : Iv) (b : Iv) (K : Bool → Option ρ) : impl_areBounded.t a b K = K (impl_areBounded a b) := cq (fun h0 => rfl) (fun h0 => rfl)
theorem impl_areBounded.gives (a : Iv) (b : Iv) : GivesV Tryz.prog 40 [cIv.enc a, cIv.enc b] (cBool.enc (impl_areBounded a b)) :=
  givesT hmix [impl_ValidInterval.e] 0 none Tryz.func40 rfl rfl ((by kernel_rfl : run1 Tryz.prog (tab [impl_ValidInterval.e]) 0 none noL Tryz.f40 [cIv.enc a, cIv.enc b] [] = impl_areBounded.t a b fun r => some (cBool.enc r, [])).trans (impl_areBounded.t_eq a b _))
def impl_areBounded.e : Entry Tryz.prog := entry2 cIv cIv cBool 40 impl_areBounded impl_areBounded.gives

/-! ### impl.Whole -/
def impl_Whole.t {ρ : Type} (K : Iv → Option ρ) : Option ρ := K (Iv.mk (-1152921504606846976) 1152921504606846976)
theorem impl_Whole.t_eq {ρ : Type} (K : Iv → Option ρ) : impl_Whole.t K = K impl_Whole := rfl
theorem impl_Whole.gives : GivesV Tryz.prog 42 [] (cIv.enc impl_Whole) :=
  givesT hmix [] 0 none Tryz.func42 rfl rfl ((by kernel_rfl : run1 Tryz.prog (tab []) 0 none noL Tryz.f42 [] [] = impl_Whole.t fun r => some (cIv.enc r, [])).trans (impl_Whole.t_eq _))
def impl_Whole.e : Entry Tryz.prog := entry0 cIv 42 impl_Whole impl_Whole.gives

/-! ### impl.within -/
def impl_within.t {ρ : Type} (x : Int) (low : Int) (high : Int) (K : Bool → Option ρ) : Option ρ := bif decide (x ≥ low) then (K (decide (x ≤ high))) else (K false)
theorem impl_within.t_eq {ρ : Type} (x : Int) (low : Int) (high : Int) (K : Bool → Option ρ) : impl_within.t x low high K = K (impl_within x low high) := cq (fun h0 => rfl) (fun h0 => rfl)
theorem impl_within.gives (x : Int) (low : Int) (high : Int) : GivesV Tryz.prog 82 [(cInt .i64).enc x, (cInt .i64).enc low, (cInt .i64).enc high] (cBool.enc (impl_within x low high)) :=
  givesT hmix [] 0 none Tryz.func82 rfl rfl ((by kernel_rfl : run1 Tryz.prog (tab []) 0 none noL Tryz.f82 [(cInt .i64).enc x, (cInt .i64).enc low, (cInt .i64).enc high] [] = impl_within.t x low high fun r => some (cBool.enc r, [])).trans (impl_within.t_eq x low high _))
def impl_within.e : Entry Tryz.prog := entry3 (cInt .i64) (cInt .i64) (cInt .i64) cBool 82 impl_within impl_within.gives

/-! ### impl.ValidFix -/
def impl_ValidFix.t {ρ : Type} (n : Int) (K : Bool → Option ρ) : Option ρ := K (impl_within n (-1152921504606846976) 1152921504606846976)
theorem impl_ValidFix.t_eq {ρ : Type} (n : Int) (K : Bool → Option ρ) : impl_ValidFix.t n K = K (impl_ValidFix n) := rfl
theorem impl_ValidFix.gives (n : Int) : GivesV Tryz.prog 76 [(cInt .i64).enc n] (cBool.enc (impl_ValidFix n)) :=
  givesT hmix [impl_within.e] 0 none Tryz.func76 rfl rfl ((by kernel_rfl : run1 Tryz.prog (tab [impl_within.e]) 0 none noL Tryz.f76 [(cInt .i64).enc n] [] = impl_ValidFix.t n fun r => some (cBool.enc r, [])).trans (impl_ValidFix.t_eq n _))
def impl_ValidFix.e : Entry Tryz.prog := entry1 (cInt .i64) cBool 76 impl_ValidFix impl_ValidFix.gives

/-! ### bits.Mul64 -/
def bits_Mul64.t {ρ : Type} (x : Int) (y : Int) (K : (Int × Int) → Option ρ) : Option ρ := let x2 := (u64 ((u64 ((Int.fdiv x 4294967296) * (andI .u64 y 4294967295))) + (Int.fdiv (u64 ((andI .u64 x 4294967295) * (andI .u64 y 4294967295))) 4294967296))); K ((u64 ((u64 ((u64 ((Int.fdiv x 4294967296) * (Int.fdiv y 4294967296))) + (Int.fdiv x2 4294967296))) + (Int.fdiv (u64 ((andI .u64 x2 4294967295) + (u64 ((andI .u64 x 4294967295) * (Int.fdiv y 4294967296))))) 4294967296))), (u64 (x * y)))
theorem bits_Mul64.t_eq {ρ : Type} (x : Int) (y : Int) (K : (Int × Int) → Option ρ) : bits_Mul64.t x y K = K (bits_Mul64 x y) := rfl
theorem bits_Mul64.gives (x : Int) (y : Int) : GivesV Tryz.prog 84 [(cInt .u64).enc x, (cInt .u64).enc y] ((cT2 (cInt .u64) (cInt .u64)).enc (bits_Mul64 x y)) :=
  givesT hmix [] 0 none Tryz.func84 rfl rfl ((by kernel_rfl : run1 Tryz.prog (tab []) 0 none noL Tryz.f84 [(cInt .u64).enc x, (cInt .u64).enc y] [] = bits_Mul64.t x y fun r => some ((cT2 (cInt .u64) (cInt .u64)).enc r, [])).trans (bits_Mul64.t_eq x y _))
def bits_Mul64.e : Entry Tryz.prog := entry2 (cInt .u64) (cInt .u64) (cT2 (cInt .u64) (cInt .u64)) 84 bits_Mul64 bits_Mul64.gives

/-! ### impl.WideMul -/
def impl_WideMul.t {ρ : Type} (a : Int) (b : Int) (K : Wd → Option ρ) : Option ρ := let t1 := (bits_Mul64 (u64 a) (u64 b)); bif decide (a < 0) then (bif decide (b < 0) then (K (Wd.mk (w64 (u64 ((u64 (t1.1 - (u64 b))) - (u64 a)))) t1.2)) else (K (Wd.mk (w64 (u64 (t1.1 - (u64 b)))) t1.2))) else (bif decide (b < 0) then (K (Wd.mk (w64 (u64 (t1.1 - (u64 a)))) t1.2)) else (K (Wd.mk (w64 t1.1) t1.2)))
theorem impl_WideMul.t_eq {ρ : Type} (a : Int) (b : Int) (K : Wd → Option ρ) : impl_WideMul.t a b K = K (impl_WideMul a b) := cq (fun h0 => cq (fun h1 => rfl) (fun h1 => rfl)) (fun h0 => cq (fun h1 => rfl) (fun h1 => rfl))
theorem impl_WideMul.gives (a : Int) (b : Int) : GivesV Tryz.prog 67 [(cInt .i64).enc a, (cInt .i64).enc b] (cWd.enc (impl_WideMul a b)) :=
  givesT hmix [bits_Mul64.e] 0 none Tryz.func67 rfl rfl ((by kernel_rfl : run1 Tryz.prog (tab [bits_Mul64.e]) 0 none noL Tryz.f67 [(cInt .i64).enc a, (cInt .i64).enc b] [] = impl_WideMul.t a b fun r => some (cWd.enc r, [])).trans (impl_WideMul.t_eq a b _))
def impl_WideMul.e : Entry Tryz.prog := entry2 (cInt .i64) (cInt .i64) cWd 67 impl_WideMul impl_WideMul.gives

/-! ### impl.WideShift -/
def impl_WideShift.t {ρ : Type} (w : Wd) (n : Int) (K : Wd → Option ρ) : Option ρ := bif (!(impl_within n 0 127)) then (K (Wd.mk 0 0)) else (bif decide (n ≥ 64) then (bif decide ((w64 (n - 64)) < 0) then none else (K (Wd.mk (Int.fdiv w.hi 9223372036854775808) (u64 (Int.fdiv w.hi (2 ^ (min (Int.toNat (w64 (n - 64))) 64))))))) else (bif decide (n < 0) then none else (bif decide (n < 0) then none else (bif decide ((w64 (64 - n)) < 0) then none else (K (Wd.mk (Int.fdiv w.hi (2 ^ (min (Int.toNat n) 64))) (orI .u64 (Int.fdiv w.lo (2 ^ (min (Int.toNat n) 64))) (u64 ((u64 w.hi) * (2 ^ (min (Int.toNat (w64 (64 - n))) 64)))))))))))
theorem impl_WideShift.t_eq {ρ : Type} (w : Wd) (n : Int) (K : Wd → Option ρ) : impl_WideShift.t w n K = K (impl_WideShift w n) := cq (fun h0 => rfl) (fun h0 => cq (fun h1 => cqF (by first | exact u64_neg _ | (simp only [decide_eq_true_eq, decide_eq_false_iff_not] at *; omega) | (simp only [Bool.not_eq_eq_eq_not, Bool.not_false, inside_iff, l00In_iff, decide_eq_true_eq, decide_eq_false_iff_not, w64_def, u64_def] at *; omega)) (fun h2 => rfl)) (fun h1 => cqF (by first | exact u64_neg _ | (simp only [decide_eq_true_eq, decide_eq_false_iff_not] at *; omega) | (simp only [Bool.not_eq_eq_eq_not, Bool.not_false, inside_iff, l00In_iff, decide_eq_true_eq, decide_eq_false_iff_not, w64_def, u64_def] at *; omega)) (fun h2 => cqF (by first | exact u64_neg _ | (simp only [decide_eq_true_eq, decide_eq_false_iff_not] at *; omega) | (simp only [Bool.not_eq_eq_eq_not, Bool.not_false, inside_iff, l00In_iff, decide_eq_true_eq, decide_eq_false_iff_not, w64_def, u64_def] at *; omega)) (fun h3 => cqF (by first | exact u64_neg _ | (simp only [decide_eq_true_eq, decide_eq_false_iff_not] at *; omega) | (simp only [Bool.not_eq_eq_eq_not, Bool.not_false, inside_iff, l00In_iff, decide_eq_true_eq, decide_eq_false_iff_not, w64_def, u64_def] at *; omega)) (fun h4 => rfl)))))
theorem impl_WideShift.gives (w : Wd) (n : Int) : GivesV Tryz.prog 89 [cWd.enc w, (cInt .i64).enc n] (cWd.enc (impl_WideShift w n)) :=
  givesT hmix [impl_within.e] 0 none Tryz.func89 rfl rfl ((by kernel_rfl : run1 Tryz.prog (tab [impl_within.e]) 0 none noL Tryz.f89 [cWd.enc w, (cInt .i64).enc n] [] = impl_WideShift.t w n fun r => some (cWd.enc r, [])).trans (impl_WideShift.t_eq w n _))
def impl_WideShift.e : Entry Tryz.prog := entry2 cWd (cInt .i64) cWd 89 impl_WideShift impl_WideShift.gives

/-! ### impl.WideOf -/
def impl_WideOf.t {ρ : Type} (n : Int) (K : Wd → Option ρ) : Option ρ := K (Wd.mk (Int.fdiv n 9223372036854775808) (u64 n))
theorem impl_WideOf.t_eq {ρ : Type} (n : Int) (K : Wd → Option ρ) : impl_WideOf.t n K = K (impl_WideOf n) := rfl
theorem impl_WideOf.gives (n : Int) : GivesV Tryz.prog 101 [(cInt .i64).enc n] (cWd.enc (impl_WideOf n)) :=
  givesT hmix [] 0 none Tryz.func101 rfl rfl ((by kernel_rfl : run1 Tryz.prog (tab []) 0 none noL Tryz.f101 [(cInt .i64).enc n] [] = impl_WideOf.t n fun r => some (cWd.enc r, [])).trans (impl_WideOf.t_eq n _))
def impl_WideOf.e : Entry Tryz.prog := entry1 (cInt .i64) cWd 101 impl_WideOf impl_WideOf.gives

/-! ### impl.WideInt -/
def impl_WideInt.t {ρ : Type} (w : Wd) (K : (Int × Bool) → Option ρ) : Option ρ := let t1 := (impl_WideOf (w64 w.lo)); bif (!((t1.hi == w.hi) && (t1.lo == w.lo))) then (K (0, false)) else (K ((w64 w.lo), true))
theorem impl_WideInt.t_eq {ρ : Type} (w : Wd) (K : (Int × Bool) → Option ρ) : impl_WideInt.t w K = K (impl_WideInt w) := cq (fun h0 => rfl) (fun h0 => rfl)
theorem impl_WideInt.gives (w : Wd) : GivesV Tryz.prog 88 [cWd.enc w] ((cT2 (cInt .i64) cBool).enc (impl_WideInt w)) :=
  givesT hmix [impl_WideOf.e] 0 none Tryz.func88 rfl rfl ((by kernel_rfl : run1 Tryz.prog (tab [impl_WideOf.e]) 0 none noL Tryz.f88 [cWd.enc w] [] = impl_WideInt.t w fun r => some ((cT2 (cInt .i64) cBool).enc r, [])).trans (impl_WideInt.t_eq w _))
def impl_WideInt.e : Entry Tryz.prog := entry1 cWd (cT2 (cInt .i64) cBool) 88 impl_WideInt impl_WideInt.gives

/-! ### impl.MulFloor -/
def impl_MulFloor.t {ρ : Type} (a : Int) (b : Int) (shift : Int) (K : (Int × Bool) → Option ρ) : Option ρ := bif (!(impl_within shift 0 126)) then (K (0, false)) else (let t4 := (impl_WideInt (impl_WideShift (impl_WideMul a b) shift)); K (t4.1, t4.2))
theorem impl_MulFloor.t_eq {ρ : Type} (a : Int) (b : Int) (shift : Int) (K : (Int × Bool) → Option ρ) : impl_MulFloor.t a b shift K = K (impl_MulFloor a b shift) := cq (fun h0 => rfl) (fun h0 => rfl)
theorem impl_MulFloor.gives (a : Int) (b : Int) (shift : Int) : GivesV Tryz.prog 78 [(cInt .i64).enc a, (cInt .i64).enc b, (cInt .i64).enc shift] ((cT2 (cInt .i64) cBool).enc (impl_MulFloor a b shift)) :=
  givesT hmix [impl_within.e, impl_WideMul.e, impl_WideShift.e, impl_WideInt.e] 0 none Tryz.func78 rfl rfl ((by kernel_rfl : run1 Tryz.prog (tab [impl_within.e, impl_WideMul.e, impl_WideShift.e, impl_WideInt.e]) 0 none noL Tryz.f78 [(cInt .i64).enc a, (cInt .i64).enc b, (cInt .i64).enc shift] [] = impl_MulFloor.t a b shift fun r => some ((cT2 (cInt .i64) cBool).enc r, [])).trans (impl_MulFloor.t_eq a b shift _))
def impl_MulFloor.e : Entry Tryz.prog := entry3 (cInt .i64) (cInt .i64) (cInt .i64) (cT2 (cInt .i64) cBool) 78 impl_MulFloor impl_MulFloor.gives

/-! ### impl.fixed -/
def impl_fixed.t {ρ : Type} (n : Int) (ok : Bool) (K : (Int × Bool) → Option ρ) : Option ρ := bif (!ok) then (K (0, false)) else (bif (!(impl_ValidFix n)) then (K (0, false)) else (K (n, true)))
theorem impl_fixed.t_eq {ρ : Type} (n : Int) (ok : Bool) (K : (Int × Bool) → Option ρ) : impl_fixed.t n ok K = K (impl_fixed n ok) := cq (fun h0 => rfl) (fun h0 => cq (fun h1 => rfl) (fun h1 => rfl))
theorem impl_fixed.gives (n : Int) (ok : Bool) : GivesV Tryz.prog 77 [(cInt .i64).enc n, cBool.enc ok] ((cT2 (cInt .i64) cBool).enc (impl_fixed n ok)) :=
  givesT hmix [impl_ValidFix.e] 0 none Tryz.func77 rfl rfl ((by kernel_rfl : run1 Tryz.prog (tab [impl_ValidFix.e]) 0 none noL Tryz.f77 [(cInt .i64).enc n, cBool.enc ok] [] = impl_fixed.t n ok fun r => some ((cT2 (cInt .i64) cBool).enc r, [])).trans (impl_fixed.t_eq n ok _))
def impl_fixed.e : Entry Tryz.prog := entry2 (cInt .i64) cBool (cT2 (cInt .i64) cBool) 77 impl_fixed impl_fixed.gives

/-! ### impl.MulDown -/
def impl_MulDown.t {ρ : Type} (a : Int) (b : Int) (K : (Int × Bool) → Option ρ) : Option ρ := bif (!(impl_ValidFix a)) then (K (0, false)) else (bif (!(impl_ValidFix b)) then (K (0, false)) else (let t3 := (impl_MulFloor a b 32); let t4 := (impl_fixed t3.1 t3.2); K (t4.1, t4.2)))
theorem impl_MulDown.t_eq {ρ : Type} (a : Int) (b : Int) (K : (Int × Bool) → Option ρ) : impl_MulDown.t a b K = K (impl_MulDown a b) := cq (fun h0 => rfl) (fun h0 => cq (fun h1 => rfl) (fun h1 => rfl))
theorem impl_MulDown.gives (a : Int) (b : Int) : GivesV Tryz.prog 58 [(cInt .i64).enc a, (cInt .i64).enc b] ((cT2 (cInt .i64) cBool).enc (impl_MulDown a b)) :=
  givesT hmix [impl_ValidFix.e, impl_MulFloor.e, impl_fixed.e] 0 none Tryz.func58 rfl rfl ((by kernel_rfl : run1 Tryz.prog (tab [impl_ValidFix.e, impl_MulFloor.e, impl_fixed.e]) 0 none noL Tryz.f58 [(cInt .i64).enc a, (cInt .i64).enc b] [] = impl_MulDown.t a b fun r => some ((cT2 (cInt .i64) cBool).enc r, [])).trans (impl_MulDown.t_eq a b _))
def impl_MulDown.e : Entry Tryz.prog := entry2 (cInt .i64) (cInt .i64) (cT2 (cInt .i64) cBool) 58 impl_MulDown impl_MulDown.gives

/-! ### impl.MulUp -/
def impl_MulUp.t {ρ : Type} (a : Int) (b : Int) (K : (Int × Bool) → Option ρ) : Option ρ := bif (!(impl_ValidFix a)) then (K (0, false)) else (bif (!(impl_ValidFix b)) then (K (0, false)) else (let t3 := (impl_MulDown (w64 (0 - a)) b); K ((w64 (0 - t3.1)), t3.2)))
theorem impl_MulUp.t_eq {ρ : Type} (a : Int) (b : Int) (K : (Int × Bool) → Option ρ) : impl_MulUp.t a b K = K (impl_MulUp a b) := cq (fun h0 => rfl) (fun h0 => cq (fun h1 => rfl) (fun h1 => rfl))
theorem impl_MulUp.gives (a : Int) (b : Int) : GivesV Tryz.prog 59 [(cInt .i64).enc a, (cInt .i64).enc b] ((cT2 (cInt .i64) cBool).enc (impl_MulUp a b)) :=
  givesT hmix [impl_ValidFix.e, impl_MulDown.e] 0 none Tryz.func59 rfl rfl ((by kernel_rfl : run1 Tryz.prog (tab [impl_ValidFix.e, impl_MulDown.e]) 0 none noL Tryz.f59 [(cInt .i64).enc a, (cInt .i64).enc b] [] = impl_MulUp.t a b fun r => some ((cT2 (cInt .i64) cBool).enc r, [])).trans (impl_MulUp.t_eq a b _))
def impl_MulUp.e : Entry Tryz.prog := entry2 (cInt .i64) (cInt .i64) (cT2 (cInt .i64) cBool) 59 impl_MulUp impl_MulUp.gives

/-! ### impl.bounded -/
def impl_bounded.t {ρ : Type} (lo_0 : Int) (hi_1 : Int) (ok : Bool) (K : Iv → Option ρ) : Option ρ := bif ok then (bif (impl_ValidInterval (Iv.mk lo_0 hi_1)) then (K (Iv.mk lo_0 hi_1)) else (K impl_Whole)) else (K impl_Whole)
theorem impl_bounded.t_eq {ρ : Type} (lo_0 : Int) (hi_1 : Int) (ok : Bool) (K : Iv → Option ρ) : impl_bounded.t lo_0 hi_1 ok K = K (impl_bounded lo_0 hi_1 ok) := cq (fun h0 => cq (fun h1 => rfl) (fun h1 => rfl)) (fun h0 => rfl)
theorem impl_bounded.gives (lo_0 : Int) (hi_1 : Int) (ok : Bool) : GivesV Tryz.prog 45 [(cInt .i64).enc lo_0, (cInt .i64).enc hi_1, cBool.enc ok] (cIv.enc (impl_bounded lo_0 hi_1 ok)) :=
  givesT hmix [impl_ValidInterval.e, impl_Whole.e] 0 none Tryz.func45 rfl rfl ((by kernel_rfl : run1 Tryz.prog (tab [impl_ValidInterval.e, impl_Whole.e]) 0 none noL Tryz.f45 [(cInt .i64).enc lo_0, (cInt .i64).enc hi_1, cBool.enc ok] [] = impl_bounded.t lo_0 hi_1 ok fun r => some (cIv.enc r, [])).trans (impl_bounded.t_eq lo_0 hi_1 ok _))
def impl_bounded.e : Entry Tryz.prog := entry3 (cInt .i64) (cInt .i64) cBool cIv 45 impl_bounded impl_bounded.gives

/-! ### impl.MulI -/
def impl_MulI.t {ρ : Type} (a : Iv) (b : Iv) (K : Iv → Option ρ) : Option ρ := bif (!(impl_areBounded a b)) then (K impl_Whole) else (let t3 := (impl_MulDown a.lo b.lo); let t4 := (impl_MulUp a.lo b.lo); bif (!t3.2) then (K impl_Whole) else (bif (!t4.2) then (K impl_Whole) else (let t7 := (impl_MulDown a.lo b.hi); let t8 := (impl_MulUp a.lo b.hi); bif (!t7.2) then (K impl_Whole) else (bif (!t8.2) then (K impl_Whole) else (let t11 := (impl_MulDown a.hi b.lo); let t12 := (impl_MulUp a.hi b.lo); bif (!t11.2) then (K impl_Whole) else (bif (!t12.2) then (K impl_Whole) else (let t15 := (impl_MulDown a.hi b.hi); let t16 := (impl_MulUp a.hi b.hi); bif (!t15.2) then (K impl_Whole) else (bif (!t16.2) then (K impl_Whole) else (K (impl_bounded (mnI (mnI (mnI (mnI t3.1 t3.1) t7.1) t11.1) t15.1) (mxI (mxI (mxI (mxI t4.1 t4.1) t8.1) t12.1) t16.1) true))))))))))
theorem impl_MulI.t_eq {ρ : Type} (a : Iv) (b : Iv) (K : Iv → Option ρ) : impl_MulI.t a b K = K (impl_MulI a b) := cq (fun h0 => rfl) (fun h0 => cq (fun h1 => rfl) (fun h1 => cq (fun h2 => rfl) (fun h2 => cq (fun h3 => rfl) (fun h3 => cq (fun h4 => rfl) (fun h4 => cq (fun h5 => rfl) (fun h5 => cq (fun h6 => rfl) (fun h6 => cq (fun h7 => rfl) (fun h7 => cq (fun h8 => rfl) (fun h8 => rfl)))))))))
theorem impl_MulI.gives (a : Iv) (b : Iv) : GivesV Tryz.prog 31 [cIv.enc a, cIv.enc b] (cIv.enc (impl_MulI a b)) :=
  givesT hmix [impl_areBounded.e, impl_Whole.e, (inl hmix [impl_MulDown.e, impl_MulUp.e, impl_Whole.e, impl_bounded.e] 3 57 Tryz.f57 Tryz.func57 rfl)] 3 none Tryz.func31 rfl rfl ((by kernel_rfl : run1 Tryz.prog (tab [impl_areBounded.e, impl_Whole.e, (inl hmix [impl_MulDown.e, impl_MulUp.e, impl_Whole.e, impl_bounded.e] 3 57 Tryz.f57 Tryz.func57 rfl)]) 3 none noL Tryz.f31 [cIv.enc a, cIv.enc b] [] = impl_MulI.t a b fun r => some (cIv.enc r, [])).trans (impl_MulI.t_eq a b _))
def impl_MulI.e : Entry Tryz.prog := entry2 cIv cIv cIv 31 impl_MulI impl_MulI.gives

/-! ### impl.IsWhole -/
def impl_IsWhole.t {ρ : Type} (i : Iv) (K : Bool → Option ρ) : Option ρ := K (!(impl_ValidInterval i))
theorem impl_IsWhole.t_eq {ρ : Type} (i : Iv) (K : Bool → Option ρ) : impl_IsWhole.t i K = K (impl_IsWhole i) := rfl
theorem impl_IsWhole.gives (i : Iv) : GivesV Tryz.prog 41 [cIv.enc i] (cBool.enc (impl_IsWhole i)) :=
  givesT hmix [impl_ValidInterval.e] 0 none Tryz.func41 rfl rfl ((by kernel_rfl : run1 Tryz.prog (tab [impl_ValidInterval.e]) 0 none noL Tryz.f41 [cIv.enc i] [] = impl_IsWhole.t i fun r => some (cBool.enc r, [])).trans (impl_IsWhole.t_eq i _))
def impl_IsWhole.e : Entry Tryz.prog := entry1 cIv cBool 41 impl_IsWhole impl_IsWhole.gives

/-! ### impl.NegI -/
def impl_NegI.t {ρ : Type} (a : Iv) (K : Iv → Option ρ) : Option ρ := bif (impl_IsWhole a) then (K impl_Whole) else (K (Iv.mk (w64 (0 - a.hi)) (w64 (0 - a.lo))))
theorem impl_NegI.t_eq {ρ : Type} (a : Iv) (K : Iv → Option ρ) : impl_NegI.t a K = K (impl_NegI a) := cq (fun h0 => rfl) (fun h0 => rfl)
theorem impl_NegI.gives (a : Iv) : GivesV Tryz.prog 56 [cIv.enc a] (cIv.enc (impl_NegI a)) :=
  givesT hmix [impl_IsWhole.e, impl_Whole.e] 0 none Tryz.func56 rfl rfl ((by kernel_rfl : run1 Tryz.prog (tab [impl_IsWhole.e, impl_Whole.e]) 0 none noL Tryz.f56 [cIv.enc a] [] = impl_NegI.t a fun r => some (cIv.enc r, [])).trans (impl_NegI.t_eq a _))
def impl_NegI.e : Entry Tryz.prog := entry1 cIv cIv 56 impl_NegI impl_NegI.gives

/-! ### impl.AddI -/
def impl_AddI.t {ρ : Type} (a : Iv) (b : Iv) (K : Iv → Option ρ) : Option ρ := bif (!(impl_areBounded a b)) then (K impl_Whole) else (K (impl_bounded (w64 (a.lo + b.lo)) (w64 (a.hi + b.hi)) true))
theorem impl_AddI.t_eq {ρ : Type} (a : Iv) (b : Iv) (K : Iv → Option ρ) : impl_AddI.t a b K = K (impl_AddI a b) := cq (fun h0 => rfl) (fun h0 => rfl)
theorem impl_AddI.gives (a : Iv) (b : Iv) : GivesV Tryz.prog 34 [cIv.enc a, cIv.enc b] (cIv.enc (impl_AddI a b)) :=
  givesT hmix [impl_areBounded.e, impl_Whole.e, impl_bounded.e] 0 none Tryz.func34 rfl rfl ((by kernel_rfl : run1 Tryz.prog (tab [impl_areBounded.e, impl_Whole.e, impl_bounded.e]) 0 none noL Tryz.f34 [cIv.enc a, cIv.enc b] [] = impl_AddI.t a b fun r => some (cIv.enc r, [])).trans (impl_AddI.t_eq a b _))
def impl_AddI.e : Entry Tryz.prog := entry2 cIv cIv cIv 34 impl_AddI impl_AddI.gives

/-! ### impl.SubI -/
def impl_SubI.t {ρ : Type} (a : Iv) (b : Iv) (K : Iv → Option ρ) : Option ρ := K (impl_AddI a (impl_NegI b))
theorem impl_SubI.t_eq {ρ : Type} (a : Iv) (b : Iv) (K : Iv → Option ρ) : impl_SubI.t a b K = K (impl_SubI a b) := rfl
theorem impl_SubI.gives (a : Iv) (b : Iv) : GivesV Tryz.prog 30 [cIv.enc a, cIv.enc b] (cIv.enc (impl_SubI a b)) :=
  givesT hmix [impl_NegI.e, impl_AddI.e] 0 none Tryz.func30 rfl rfl ((by kernel_rfl : run1 Tryz.prog (tab [impl_NegI.e, impl_AddI.e]) 0 none noL Tryz.f30 [cIv.enc a, cIv.enc b] [] = impl_SubI.t a b fun r => some (cIv.enc r, [])).trans (impl_SubI.t_eq a b _))
def impl_SubI.e : Entry Tryz.prog := entry2 cIv cIv cIv 30 impl_SubI impl_SubI.gives

/-! ### impl.CrossV -/
def impl_CrossV.t {ρ : Type} (a : V3) (b : V3) (K : V3 → Option ρ) : Option ρ := K (V3.mk (impl_SubI (impl_MulI a.y b.z) (impl_MulI a.z b.y)) (impl_SubI (impl_MulI a.z b.x) (impl_MulI a.x b.z)) (impl_SubI (impl_MulI a.x b.y) (impl_MulI a.y b.x)))
theorem impl_CrossV.t_eq {ρ : Type} (a : V3) (b : V3) (K : V3 → Option ρ) : impl_CrossV.t a b K = K (impl_CrossV a b) := rfl
theorem impl_CrossV.gives (a : V3) (b : V3) : GivesV Tryz.prog 6 [cV3.enc a, cV3.enc b] (cV3.enc (impl_CrossV a b)) :=
  givesT hmix [impl_MulI.e, impl_SubI.e] 0 none Tryz.func6 rfl rfl ((by kernel_rfl : run1 Tryz.prog (tab [impl_MulI.e, impl_SubI.e]) 0 none noL Tryz.f6 [cV3.enc a, cV3.enc b] [] = impl_CrossV.t a b fun r => some (cV3.enc r, [])).trans (impl_CrossV.t_eq a b _))
def impl_CrossV.e : Entry Tryz.prog := entry2 cV3 cV3 cV3 6 impl_CrossV impl_CrossV.gives

/-! ### impl.DotV -/
def impl_DotV.t {ρ : Type} (a : V3) (b : V3) (K : Iv → Option ρ) : Option ρ := K (impl_AddI (impl_AddI (impl_MulI a.x b.x) (impl_MulI a.y b.y)) (impl_MulI a.z b.z))
theorem impl_DotV.t_eq {ρ : Type} (a : V3) (b : V3) (K : Iv → Option ρ) : impl_DotV.t a b K = K (impl_DotV a b) := rfl
theorem impl_DotV.gives (a : V3) (b : V3) : GivesV Tryz.prog 8 [cV3.enc a, cV3.enc b] (cIv.enc (impl_DotV a b)) :=
  givesT hmix [impl_MulI.e, impl_AddI.e] 0 none Tryz.func8 rfl rfl ((by kernel_rfl : run1 Tryz.prog (tab [impl_MulI.e, impl_AddI.e]) 0 none noL Tryz.f8 [cV3.enc a, cV3.enc b] [] = impl_DotV.t a b fun r => some (cIv.enc r, [])).trans (impl_DotV.t_eq a b _))
def impl_DotV.e : Entry Tryz.prog := entry2 cV3 cV3 cIv 8 impl_DotV impl_DotV.gives

/-! ### spec.l04Ok -/
def spec_l04Ok.t {ρ : Type} (a : Iv) (K : Bool → Option ρ) : Option ρ := bif decide ((-1152921504606846976) < a.lo) then (bif decide (a.lo ≤ a.hi) then (K (decide (a.hi < 1152921504606846976))) else (K false)) else (K false)
theorem spec_l04Ok.t_eq {ρ : Type} (a : Iv) (K : Bool → Option ρ) : spec_l04Ok.t a K = K (spec_l04Ok a) := cq (fun h0 => cq (fun h1 => rfl) (fun h1 => rfl)) (fun h0 => rfl)
theorem spec_l04Ok.gives (a : Iv) : GivesV Tryz.prog 32 [cIv.enc a] (cBool.enc (spec_l04Ok a)) :=
  givesT hmix [] 0 none Tryz.func32 rfl rfl ((by kernel_rfl : run1 Tryz.prog (tab []) 0 none noL Tryz.f32 [cIv.enc a] [] = spec_l04Ok.t a fun r => some (cBool.enc r, [])).trans (spec_l04Ok.t_eq a _))
def spec_l04Ok.e : Entry Tryz.prog := entry1 cIv cBool 32 spec_l04Ok spec_l04Ok.gives

/-! ### spec.l00In -/
def spec_l00In.t {ρ : Type} (n : Int) (low : Int) (high : Int) (K : Bool → Option ρ) : Option ρ := bif decide (n ≥ low) then (K (decide (n ≤ high))) else (K false)
theorem spec_l00In.t_eq {ρ : Type} (n : Int) (low : Int) (high : Int) (K : Bool → Option ρ) : spec_l00In.t n low high K = K (spec_l00In n low high) := cq (fun h0 => rfl) (fun h0 => rfl)
theorem spec_l00In.gives (n : Int) (low : Int) (high : Int) : GivesV Tryz.prog 53 [(cInt .i64).enc n, (cInt .i64).enc low, (cInt .i64).enc high] (cBool.enc (spec_l00In n low high)) :=
  givesT hmix [] 0 none Tryz.func53 rfl rfl ((by kernel_rfl : run1 Tryz.prog (tab []) 0 none noL Tryz.f53 [(cInt .i64).enc n, (cInt .i64).enc low, (cInt .i64).enc high] [] = spec_l00In.t n low high fun r => some (cBool.enc r, [])).trans (spec_l00In.t_eq n low high _))
def spec_l00In.e : Entry Tryz.prog := entry3 (cInt .i64) (cInt .i64) (cInt .i64) cBool 53 spec_l00In spec_l00In.gives

/-! ### spec.l04Has -/
def spec_l04Has.t {ρ : Type} (a : Iv) (n : Int) (K : Bool → Option ρ) : Option ρ := K (spec_l00In n a.lo a.hi)
theorem spec_l04Has.t_eq {ρ : Type} (a : Iv) (n : Int) (K : Bool → Option ρ) : spec_l04Has.t a n K = K (spec_l04Has a n) := rfl
theorem spec_l04Has.gives (a : Iv) (n : Int) : GivesV Tryz.prog 33 [cIv.enc a, (cInt .i64).enc n] (cBool.enc (spec_l04Has a n)) :=
  givesT hmix [spec_l00In.e] 0 none Tryz.func33 rfl rfl ((by kernel_rfl : run1 Tryz.prog (tab [spec_l00In.e]) 0 none noL Tryz.f33 [cIv.enc a, (cInt .i64).enc n] [] = spec_l04Has.t a n fun r => some (cBool.enc r, [])).trans (spec_l04Has.t_eq a n _))
def spec_l04Has.e : Entry Tryz.prog := entry2 cIv (cInt .i64) cBool 33 spec_l04Has spec_l04Has.gives

/-! ### spec.HasI -/
def spec_HasI.t {ρ : Type} (a : Iv) (n : Int) (K : Bool → Option ρ) : Option ρ := bif (!(spec_l04Ok a)) then (K true) else (K (spec_l04Has a n))
theorem spec_HasI.t_eq {ρ : Type} (a : Iv) (n : Int) (K : Bool → Option ρ) : spec_HasI.t a n K = K (spec_HasI a n) := cq (fun h0 => rfl) (fun h0 => rfl)
theorem spec_HasI.gives (a : Iv) (n : Int) : GivesV Tryz.prog 7 [cIv.enc a, (cInt .i64).enc n] (cBool.enc (spec_HasI a n)) :=
  givesT hmix [spec_l04Ok.e, spec_l04Has.e] 0 none Tryz.func7 rfl rfl ((by kernel_rfl : run1 Tryz.prog (tab [spec_l04Ok.e, spec_l04Has.e]) 0 none noL Tryz.f7 [cIv.enc a, (cInt .i64).enc n] [] = spec_HasI.t a n fun r => some (cBool.enc r, [])).trans (spec_HasI.t_eq a n _))
def spec_HasI.e : Entry Tryz.prog := entry2 cIv (cInt .i64) cBool 7 spec_HasI spec_HasI.gives

/-! ### impl.abs -/
def impl_abs.t {ρ : Type} (x : Int) (K : Int → Option ρ) : Option ρ := K (mxI x (w64 (0 - x)))
theorem impl_abs.t_eq {ρ : Type} (x : Int) (K : Int → Option ρ) : impl_abs.t x K = K (impl_abs x) := rfl
theorem impl_abs.gives (x : Int) : GivesV Tryz.prog 64 [(cInt .i64).enc x] ((cInt .i64).enc (impl_abs x)) :=
  givesT hmix [] 0 none Tryz.func64 rfl rfl ((by kernel_rfl : run1 Tryz.prog (tab []) 0 none noL Tryz.f64 [(cInt .i64).enc x] [] = impl_abs.t x fun r => some ((cInt .i64).enc r, [])).trans (impl_abs.t_eq x _))
def impl_abs.e : Entry Tryz.prog := entry1 (cInt .i64) (cInt .i64) 64 impl_abs impl_abs.gives

/-! ### impl.HasI -/
def impl_HasI.t {ρ : Type} (a : Iv) (n : Int) (K : Bool → Option ρ) : Option ρ := bif (impl_IsWhole a) then (K true) else (K (impl_within n a.lo a.hi))
theorem impl_HasI.t_eq {ρ : Type} (a : Iv) (n : Int) (K : Bool → Option ρ) : impl_HasI.t a n K = K (impl_HasI a n) := cq (fun h0 => rfl) (fun h0 => rfl)
theorem impl_HasI.gives (a : Iv) (n : Int) : GivesV Tryz.prog 65 [cIv.enc a, (cInt .i64).enc n] (cBool.enc (impl_HasI a n)) :=
  givesT hmix [impl_IsWhole.e, impl_within.e] 0 none Tryz.func65 rfl rfl ((by kernel_rfl : run1 Tryz.prog (tab [impl_IsWhole.e, impl_within.e]) 0 none noL Tryz.f65 [cIv.enc a, (cInt .i64).enc n] [] = impl_HasI.t a n fun r => some (cBool.enc r, [])).trans (impl_HasI.t_eq a n _))
def impl_HasI.e : Entry Tryz.prog := entry2 cIv (cInt .i64) cBool 65 impl_HasI impl_HasI.gives

/-! ### impl.AbsI -/
def impl_AbsI.t {ρ : Type} (a : Iv) (K : Iv → Option ρ) : Option ρ := bif (impl_IsWhole a) then (K impl_Whole) else (let t5 := (impl_abs a.lo); let t6 := (impl_abs a.hi); bif (impl_HasI a 0) then (K (Iv.mk 0 (mxI t5 t6))) else (K (Iv.mk (mnI (impl_abs a.lo) (impl_abs a.hi)) (mxI t5 t6))))
theorem impl_AbsI.t_eq {ρ : Type} (a : Iv) (K : Iv → Option ρ) : impl_AbsI.t a K = K (impl_AbsI a) := cq (fun h0 => rfl) (fun h0 => cq (fun h1 => rfl) (fun h1 => rfl))
theorem impl_AbsI.gives (a : Iv) : GivesV Tryz.prog 43 [cIv.enc a] (cIv.enc (impl_AbsI a)) :=
  givesT hmix [impl_IsWhole.e, impl_Whole.e, impl_abs.e, impl_HasI.e] 0 none Tryz.func43 rfl rfl ((by kernel_rfl : run1 Tryz.prog (tab [impl_IsWhole.e, impl_Whole.e, impl_abs.e, impl_HasI.e]) 0 none noL Tryz.f43 [cIv.enc a] [] = impl_AbsI.t a fun r => some (cIv.enc r, [])).trans (impl_AbsI.t_eq a _))
def impl_AbsI.e : Entry Tryz.prog := entry1 cIv cIv 43 impl_AbsI impl_AbsI.gives

/-! ### bits.Add64 -/
theorem bits_Add64.ext (x y c : Int) (h : decide (0 ≤ c ∧ c ≤ 1) = true) (w : World) : (callFunc 83 #[.int .u64 x, .int .u64 y, .int .u64 c]).run Tryz.prog w = .ok (.value ((cT2 (cInt .u64) (cInt .u64)).enc (bits_Add64 x y c))) w := by
  have hc : c = 0 ∨ c = 1 := by simp only [decide_eq_true_eq] at h; omega
  rcases hc with rfl | rfl <;> (rw [run_callFunc_extern Tryz.func83 (by kernel_rfl) (by kernel_rfl) (by kernel_rfl) (e := add64Entry) (by kernel_rfl)]; rfl)
def bits_Add64.e : Entry Tryz.prog := entryX3 (cInt .u64) (cInt .u64) (cInt .u64) (cT2 (cInt .u64) (cInt .u64)) 83 bits_Add64 (fun x y c => decide (0 ≤ c ∧ c ≤ 1)) bits_Add64.ext


/-! ### impl.WideAdd -/
def impl_WideAdd.t {ρ : Type} (a : Wd) (b : Wd) (K : (Wd × Bool) → Option ρ) : Option ρ := let t1 := (bits_Add64 a.lo b.lo 0); bif decide (0 ≤ t1.2 ∧ t1.2 ≤ 1) then (let t2 := (bits_Add64 (u64 a.hi) (u64 b.hi) t1.2); bif decide ((andI .i64 (xorI .i64 a.hi (w64 t2.1)) (xorI .i64 b.hi (w64 t2.1))) < 0) then (K ((Wd.mk 0 0), false)) else (K ((Wd.mk (w64 t2.1) t1.1), true))) else none
theorem impl_WideAdd.t_eq {ρ : Type} (a : Wd) (b : Wd) (hpre : (decide (0 ≤ a.lo ∧ a.lo < 18446744073709551616 ∧ 0 ≤ b.lo ∧ b.lo < 18446744073709551616)) = true) (K : (Wd × Bool) → Option ρ) : impl_WideAdd.t a b K = K (impl_WideAdd a b) := cqT (by exact pd_add hpre) (fun h0 => cq (fun h1 => rfl) (fun h1 => rfl))
theorem impl_WideAdd.gives (a : Wd) (b : Wd) (hpre : (decide (0 ≤ a.lo ∧ a.lo < 18446744073709551616 ∧ 0 ≤ b.lo ∧ b.lo < 18446744073709551616)) = true) : GivesV Tryz.prog 66 [cWd.enc a, cWd.enc b] ((cT2 cWd cBool).enc (impl_WideAdd a b)) :=
  givesT hmix [bits_Add64.e] 0 none Tryz.func66 rfl rfl ((by kernel_rfl : run1 Tryz.prog (tab [bits_Add64.e]) 0 none noL Tryz.f66 [cWd.enc a, cWd.enc b] [] = impl_WideAdd.t a b fun r => some ((cT2 cWd cBool).enc r, [])).trans (impl_WideAdd.t_eq a b hpre _))
def impl_WideAdd.e : Entry Tryz.prog := entry2P cWd cWd (cT2 cWd cBool) 66 impl_WideAdd (fun a b => decide (0 ≤ a.lo ∧ a.lo < 18446744073709551616 ∧ 0 ≤ b.lo ∧ b.lo < 18446744073709551616)) impl_WideAdd.gives

/-! ### impl.WideSqrt -/
def impl_WideSqrt.ls : Option (List Nat) := some [1, 4, 5]
def impl_WideSqrt.env5 (w_hi : Int) (w_lo : Int) (v : Int × Int) : Env := [(1, .pointer (some ⟨0, 0, none⟩)), (4, .int .u64 v.1), (5, .int .i64 v.2)]
def impl_WideSqrt.heap5 (w_hi : Int) (w_lo : Int) (v : Int × Int) : LH := [(#[.int .i64 w_hi, .int .u64 w_lo], 71)]
def impl_WideSqrt.L5 : LEntry := ⟨5, fun _ tm σ K => match tm, σ with
  | [(1, .pointer (some ⟨0, 0, none⟩)), (4, .int .u64 root), (5, .int .i64 i)], [(⟨[.int .i64 w_hi, .int .u64 w_lo]⟩, 71)] => (match decide (i = 63) with | true => K (.exit 0) (impl_WideSqrt.env5 w_hi w_lo (impl_WideSqrt.fin5 w_hi w_lo (root, i))) (impl_WideSqrt.heap5 w_hi w_lo (impl_WideSqrt.fin5 w_hi w_lo (root, i))) | false => none)
  | _, _ => none⟩
def impl_WideSqrt.lt5 {ρ : Type} (w_hi : Int) (w_lo : Int) (root : Int) (i : Int) (K : Sum (Int × Int) (Int × Int) → Option ρ) : Option ρ := bif decide (i ≥ 0) then (bif decide (i < 0) then none else (let t1 := (bits_Mul64 (orI .u64 root (u64 (1 * (2 ^ (min (Int.toNat i) 64))))) (orI .u64 root (u64 (1 * (2 ^ (min (Int.toNat i) 64)))))); bif decide (t1.1 < (u64 w_hi)) then (K (Sum.inl ((orI .u64 root (u64 (1 * (2 ^ (min (Int.toNat i) 64))))), (w64 (i - 1))))) else (bif (t1.1 == (u64 w_hi)) then (bif decide (t1.2 ≤ w_lo) then (K (Sum.inl ((orI .u64 root (u64 (1 * (2 ^ (min (Int.toNat i) 64))))), (w64 (i - 1))))) else (K (Sum.inl (root, (w64 (i - 1)))))) else (K (Sum.inl (root, (w64 (i - 1)))))))) else (K (Sum.inr (root, i)))
theorem impl_WideSqrt.lt5_eq {ρ : Type} (w_hi : Int) (w_lo : Int) (root : Int) (i : Int) (hpre : -1 ≤ i ∧ i ≤ 63) (K : Sum (Int × Int) (Int × Int) → Option ρ) : impl_WideSqrt.lt5 w_hi w_lo root i K = K (impl_WideSqrt.rnd5 w_hi w_lo root i) := cq (fun h0 => cqF (by first | exact u64_neg _ | (simp only [decide_eq_false_iff_not, decide_eq_true_eq] at *; omega)) (fun h1 => cq (fun h2 => rfl) (fun h2 => cq (fun h3 => cq (fun h4 => rfl) (fun h4 => rfl)) (fun h3 => rfl)))) (fun h0 => rfl)
theorem impl_WideSqrt.step5 (w_hi : Int) (w_lo : Int) (root : Int) (i : Int) (k : Nat) (R : Type) (K : LX → Env → LH → Option R) : loopN Tryz.prog 0 impl_WideSqrt.ls (k + 1) (exec Tryz.prog (tab (P := Tryz.prog) [bits_Mul64.e]) 0 46 0 impl_WideSqrt.ls (lam [impl_WideSqrt.L5]) (cOf Tryz.f68 0)) (impl_WideSqrt.env5 w_hi w_lo (root, i)) (impl_WideSqrt.heap5 w_hi w_lo (root, i)) K = impl_WideSqrt.lt5 w_hi w_lo root i (sumK (fun v => loopN Tryz.prog 0 impl_WideSqrt.ls k (exec Tryz.prog (tab (P := Tryz.prog) [bits_Mul64.e]) 0 46 0 impl_WideSqrt.ls (lam [impl_WideSqrt.L5]) (cOf Tryz.f68 0)) (impl_WideSqrt.env5 w_hi w_lo v) (impl_WideSqrt.heap5 w_hi w_lo v) K) (fun v => K (.exit 0) (impl_WideSqrt.env5 w_hi w_lo v) (impl_WideSqrt.heap5 w_hi w_lo v))) := by kernel_rfl
theorem impl_WideSqrt.dec5 (w_hi : Int) (w_lo : Int) (v : Int × Int) (hv : -1 ≤ v.2 ∧ v.2 ≤ 63) (v' : Int × Int) (hr : impl_WideSqrt.rnd5 w_hi w_lo v.1 v.2 = Sum.inl v') : (-1 ≤ v'.2 ∧ v'.2 ≤ 63) ∧ (v'.2 + 1).toNat < (v.2 + 1).toNat := by
  simp only [impl_WideSqrt.rnd5, Bool.cond_eq_ite, decide_eq_true_eq] at hr
  have e : w64 (v.2 - 1) = v.2 - 1 := w64_id (by omega) (by omega)
  (repeat' split at hr) <;> cases hr <;> (simp only [e]; omega)
theorem impl_WideSqrt.to5 : impl_WideSqrt.L5.Ok Tryz.prog (tab (P := Tryz.prog) [bits_Mul64.e]) 0 46 0 impl_WideSqrt.ls (lam [impl_WideSqrt.L5]) (cOf Tryz.f68 0) := by
  intro R tm σ K r h
  simp only [impl_WideSqrt.L5] at h
  split at h
  case h_2 => simp at h
  split at h
  case h_2 => simp at h
  rename_i root i w_hi w_lo _ hc
  exact ⟨_, _, _, h, loop_to (x := 0) (rnd := (fun v : Int × Int => impl_WideSqrt.rnd5 w_hi w_lo v.1 v.2)) (env := fun v : Int × Int => impl_WideSqrt.env5 w_hi w_lo v) (heap := fun v : Int × Int => impl_WideSqrt.heap5 w_hi w_lo v) (Inv := (fun v : Int × Int => -1 ≤ v.2 ∧ v.2 ≤ 63)) (μ := (fun v : Int × Int => (v.2 + 1).toNat)) (fun v hv k R K => (impl_WideSqrt.step5 w_hi w_lo v.1 v.2 k R K).trans (impl_WideSqrt.lt5_eq w_hi w_lo v.1 v.2 hv (sumK (fun v => loopN Tryz.prog 0 impl_WideSqrt.ls k (exec Tryz.prog (tab (P := Tryz.prog) [bits_Mul64.e]) 0 46 0 impl_WideSqrt.ls (lam [impl_WideSqrt.L5]) (cOf Tryz.f68 0)) (impl_WideSqrt.env5 w_hi w_lo v) (impl_WideSqrt.heap5 w_hi w_lo v) K) (fun v => K (.exit 0) (impl_WideSqrt.env5 w_hi w_lo v) (impl_WideSqrt.heap5 w_hi w_lo v))))) (fun v hv v' hr => impl_WideSqrt.dec5 w_hi w_lo v hv v' hr) 65 (root, i) (by have := of_decide_eq_true hc; simp only []; omega) (by have := of_decide_eq_true hc; simp only []; omega)⟩
theorem impl_WideSqrt.lok : ∀ c, Tryz.f68.body = some c → LamOk Tryz.prog (tab (P := Tryz.prog) [bits_Mul64.e]) 0 Tryz.f68.ntmps 0 impl_WideSqrt.ls (lam [impl_WideSqrt.L5]) (loopsOf c) := by
  intro c hc
  have hb : loopsOf c = [(cOf Tryz.f68 0)] := by
    have h : loopsOf (Tryz.f68.body.getD .skip) = [(cOf Tryz.f68 0)] := by kernel_rfl
    rw [hc] at h
    exact h
  exact lam_ok1 hb impl_WideSqrt.to5
def impl_WideSqrt.t {ρ : Type} (w : Wd) (K : (Int × Bool) → Option ρ) : Option ρ := bif decide (w.hi < 0) then (K (0, false)) else (K ((impl_WideSqrt.fin5 w.hi w.lo (0, 63)).1, true))
theorem impl_WideSqrt.t_eq {ρ : Type} (w : Wd) (K : (Int × Bool) → Option ρ) : impl_WideSqrt.t w K = K (impl_WideSqrt w) := cq (fun h0 => rfl) (fun h0 => rfl)
theorem impl_WideSqrt.gives (w : Wd) : GivesV Tryz.prog 68 [cWd.enc w] ((cT2 (cInt .u64) cBool).enc (impl_WideSqrt w)) :=
  givesL hmix [bits_Mul64.e] 0 impl_WideSqrt.ls (lam [impl_WideSqrt.L5]) Tryz.func68 rfl rfl impl_WideSqrt.lok ((by kernel_rfl : run1 Tryz.prog (tab [bits_Mul64.e]) 0 impl_WideSqrt.ls (lam [impl_WideSqrt.L5]) Tryz.f68 [cWd.enc w] [] = impl_WideSqrt.t w fun r => some ((cT2 (cInt .u64) cBool).enc r, [])).trans (impl_WideSqrt.t_eq w _))
def impl_WideSqrt.e : Entry Tryz.prog := entry1 cWd (cT2 (cInt .u64) cBool) 68 impl_WideSqrt impl_WideSqrt.gives

/-! ### impl.rootOfSquares -/
def impl_rootOfSquares.t {ρ : Type} (x : Int) (y : Int) (z : Int) (K : (Int × Int) → Option ρ) : Option ρ := let t1 := (impl_WideMul x x); let t2 := (impl_WideMul y y); bif decide (0 ≤ t1.lo ∧ t1.lo < 18446744073709551616 ∧ 0 ≤ t2.lo ∧ t2.lo < 18446744073709551616) then (let t3 := (impl_WideAdd t1 t2); let t4 := (impl_WideMul z z); bif decide (0 ≤ t3.1.lo ∧ t3.1.lo < 18446744073709551616 ∧ 0 ≤ t4.lo ∧ t4.lo < 18446744073709551616) then (let t5 := (impl_WideAdd t3.1 t4); let t6 := (impl_WideSqrt t5.1); let t7 := (impl_WideMul (w64 t6.1) (w64 t6.1)); bif (!((t7.hi == t5.1.hi) && (t7.lo == t5.1.lo))) then (K ((w64 t6.1), (w64 ((w64 t6.1) + 1)))) else (K ((w64 t6.1), (w64 t6.1)))) else none) else none
theorem impl_rootOfSquares.t_eq {ρ : Type} (x : Int) (y : Int) (z : Int) (K : (Int × Int) → Option ρ) : impl_rootOfSquares.t x y z K = K (impl_rootOfSquares x y z) := cqT (by first | with_reducible exact pd_addM | with_reducible exact pd_addA) (fun h0 => cqT (by first | with_reducible exact pd_addM | with_reducible exact pd_addA) (fun h1 => cq (fun h2 => rfl) (fun h2 => rfl)))
theorem impl_rootOfSquares.gives (x : Int) (y : Int) (z : Int) : GivesV Tryz.prog 44 [(cInt .i64).enc x, (cInt .i64).enc y, (cInt .i64).enc z] ((cT2 (cInt .i64) (cInt .i64)).enc (impl_rootOfSquares x y z)) :=
  givesT hmix [impl_WideMul.e, impl_WideAdd.e, impl_WideSqrt.e] 0 none Tryz.func44 rfl rfl ((by kernel_rfl : run1 Tryz.prog (tab [impl_WideMul.e, impl_WideAdd.e, impl_WideSqrt.e]) 0 none noL Tryz.f44 [(cInt .i64).enc x, (cInt .i64).enc y, (cInt .i64).enc z] [] = impl_rootOfSquares.t x y z fun r => some ((cT2 (cInt .i64) (cInt .i64)).enc r, [])).trans (impl_rootOfSquares.t_eq x y z _))
def impl_rootOfSquares.e : Entry Tryz.prog := entry3 (cInt .i64) (cInt .i64) (cInt .i64) (cT2 (cInt .i64) (cInt .i64)) 44 impl_rootOfSquares impl_rootOfSquares.gives

/-! ### impl.NormV -/
def impl_NormV.t {ρ : Type} (a : V3) (K : Iv → Option ρ) : Option ρ := bif (!(impl_areBounded a.x a.y)) then (K impl_Whole) else (bif (impl_IsWhole a.z) then (K impl_Whole) else (let t5 := (impl_AbsI a.x); let t6 := (impl_AbsI a.y); let t7 := (impl_AbsI a.z); K (impl_bounded (impl_rootOfSquares t5.lo t6.lo t7.lo).1 (impl_rootOfSquares t5.hi t6.hi t7.hi).2 true)))
theorem impl_NormV.t_eq {ρ : Type} (a : V3) (K : Iv → Option ρ) : impl_NormV.t a K = K (impl_NormV a) := cq (fun h0 => rfl) (fun h0 => cq (fun h1 => rfl) (fun h1 => rfl))
theorem impl_NormV.gives (a : V3) : GivesV Tryz.prog 11 [cV3.enc a] (cIv.enc (impl_NormV a)) :=
  givesT hmix [impl_areBounded.e, impl_Whole.e, impl_IsWhole.e, impl_AbsI.e, impl_rootOfSquares.e, impl_bounded.e] 0 none Tryz.func11 rfl rfl ((by kernel_rfl : run1 Tryz.prog (tab [impl_areBounded.e, impl_Whole.e, impl_IsWhole.e, impl_AbsI.e, impl_rootOfSquares.e, impl_bounded.e]) 0 none noL Tryz.f11 [cV3.enc a] [] = impl_NormV.t a fun r => some (cIv.enc r, [])).trans (impl_NormV.t_eq a _))
def impl_NormV.e : Entry Tryz.prog := entry1 cV3 cIv 11 impl_NormV impl_NormV.gives

/-! ### spec.l04Whole -/
def spec_l04Whole.t {ρ : Type} (K : Iv → Option ρ) : Option ρ := K (Iv.mk (-1152921504606846976) 1152921504606846976)
theorem spec_l04Whole.t_eq {ρ : Type} (K : Iv → Option ρ) : spec_l04Whole.t K = K spec_l04Whole := rfl
theorem spec_l04Whole.gives : GivesV Tryz.prog 35 [] (cIv.enc spec_l04Whole) :=
  givesT hmix [] 0 none Tryz.func35 rfl rfl ((by kernel_rfl : run1 Tryz.prog (tab []) 0 none noL Tryz.f35 [] [] = spec_l04Whole.t fun r => some (cIv.enc r, [])).trans (spec_l04Whole.t_eq _))
def spec_l04Whole.e : Entry Tryz.prog := entry0 cIv 35 spec_l04Whole spec_l04Whole.gives

/-! ### spec.l00Max -/
def spec_l00Max.t {ρ : Type} (a : Int) (b : Int) (K : Int → Option ρ) : Option ρ := bif decide (a > b) then (K a) else (K b)
theorem spec_l00Max.t_eq {ρ : Type} (a : Int) (b : Int) (K : Int → Option ρ) : spec_l00Max.t a b K = K (spec_l00Max a b) := cq (fun h0 => rfl) (fun h0 => rfl)
theorem spec_l00Max.gives (a : Int) (b : Int) : GivesV Tryz.prog 47 [(cInt .i64).enc a, (cInt .i64).enc b] ((cInt .i64).enc (spec_l00Max a b)) :=
  givesT hmix [] 0 none Tryz.func47 rfl rfl ((by kernel_rfl : run1 Tryz.prog (tab []) 0 none noL Tryz.f47 [(cInt .i64).enc a, (cInt .i64).enc b] [] = spec_l00Max.t a b fun r => some ((cInt .i64).enc r, [])).trans (spec_l00Max.t_eq a b _))
def spec_l00Max.e : Entry Tryz.prog := entry2 (cInt .i64) (cInt .i64) (cInt .i64) 47 spec_l00Max spec_l00Max.gives

/-! ### spec.l00Min -/
def spec_l00Min.t {ρ : Type} (a : Int) (b : Int) (K : Int → Option ρ) : Option ρ := bif decide (a < b) then (K a) else (K b)
theorem spec_l00Min.t_eq {ρ : Type} (a : Int) (b : Int) (K : Int → Option ρ) : spec_l00Min.t a b K = K (spec_l00Min a b) := cq (fun h0 => rfl) (fun h0 => rfl)
theorem spec_l00Min.gives (a : Int) (b : Int) : GivesV Tryz.prog 46 [(cInt .i64).enc a, (cInt .i64).enc b] ((cInt .i64).enc (spec_l00Min a b)) :=
  givesT hmix [] 0 none Tryz.func46 rfl rfl ((by kernel_rfl : run1 Tryz.prog (tab []) 0 none noL Tryz.f46 [(cInt .i64).enc a, (cInt .i64).enc b] [] = spec_l00Min.t a b fun r => some ((cInt .i64).enc r, [])).trans (spec_l00Min.t_eq a b _))
def spec_l00Min.e : Entry Tryz.prog := entry2 (cInt .i64) (cInt .i64) (cInt .i64) 46 spec_l00Min spec_l00Min.gives

/-! ### spec.l04Ends -/
def spec_l04Ends.t {ρ : Type} (a : Iv) (K : (Int × Int) → Option ρ) : Option ρ := let t1 := (spec_l00Max a.lo (w64 (0 - a.lo))); let t2 := (spec_l00Max a.hi (w64 (0 - a.hi))); bif (spec_l04Has a 0) then (K (0, (spec_l00Max t1 t2))) else (K ((spec_l00Min t1 t2), (spec_l00Max t1 t2)))
theorem spec_l04Ends.t_eq {ρ : Type} (a : Iv) (K : (Int × Int) → Option ρ) : spec_l04Ends.t a K = K (spec_l04Ends a) := cq (fun h0 => rfl) (fun h0 => rfl)
theorem spec_l04Ends.gives (a : Iv) : GivesV Tryz.prog 37 [cIv.enc a] ((cT2 (cInt .i64) (cInt .i64)).enc (spec_l04Ends a)) :=
  givesT hmix [spec_l00Max.e, spec_l04Has.e, spec_l00Min.e] 0 none Tryz.func37 rfl rfl ((by kernel_rfl : run1 Tryz.prog (tab [spec_l00Max.e, spec_l04Has.e, spec_l00Min.e]) 0 none noL Tryz.f37 [cIv.enc a] [] = spec_l04Ends.t a fun r => some ((cT2 (cInt .i64) (cInt .i64)).enc r, [])).trans (spec_l04Ends.t_eq a _))
def spec_l04Ends.e : Entry Tryz.prog := entry1 cIv (cT2 (cInt .i64) (cInt .i64)) 37 spec_l04Ends spec_l04Ends.gives

/-! ### spec.l03Ok -/
def spec_l03Ok.t {ρ : Type} (n : Int) (K : Bool → Option ρ) : Option ρ := K (spec_l00In n (-1152921504606846976) 1152921504606846976)
theorem spec_l03Ok.t_eq {ρ : Type} (n : Int) (K : Bool → Option ρ) : spec_l03Ok.t n K = K (spec_l03Ok n) := rfl
theorem spec_l03Ok.gives (n : Int) : GivesV Tryz.prog 60 [(cInt .i64).enc n] (cBool.enc (spec_l03Ok n)) :=
  givesT hmix [spec_l00In.e] 0 none Tryz.func60 rfl rfl ((by kernel_rfl : run1 Tryz.prog (tab [spec_l00In.e]) 0 none noL Tryz.f60 [(cInt .i64).enc n] [] = spec_l03Ok.t n fun r => some (cBool.enc r, [])).trans (spec_l03Ok.t_eq n _))
def spec_l03Ok.e : Entry Tryz.prog := entry1 (cInt .i64) cBool 60 spec_l03Ok spec_l03Ok.gives

/-! ### spec.l02Size -/
def spec_l02Size.t {ρ : Type} (n : Int) (K : Int → Option ρ) : Option ρ := bif decide (n < 0) then (K (u64 (0 - (u64 n)))) else (K (u64 n))
theorem spec_l02Size.t_eq {ρ : Type} (n : Int) (K : Int → Option ρ) : spec_l02Size.t n K = K (spec_l02Size n) := cq (fun h0 => rfl) (fun h0 => rfl)
theorem spec_l02Size.gives (n : Int) : GivesV Tryz.prog 92 [(cInt .i64).enc n] ((cInt .u64).enc (spec_l02Size n)) :=
  givesT hmix [] 0 none Tryz.func92 rfl rfl ((by kernel_rfl : run1 Tryz.prog (tab []) 0 none noL Tryz.f92 [(cInt .i64).enc n] [] = spec_l02Size.t n fun r => some ((cInt .u64).enc r, [])).trans (spec_l02Size.t_eq n _))
def spec_l02Size.e : Entry Tryz.prog := entry1 (cInt .i64) (cInt .u64) 92 spec_l02Size spec_l02Size.gives

/-! ### spec.l02Times -/
def spec_l02Times.t {ρ : Type} (a : Int) (b : Int) (K : (Int × Int) → Option ρ) : Option ρ := let x2 := (u64 ((u64 ((Int.fdiv a 4294967296) * (andI .u64 b 4294967295))) + (Int.fdiv (u64 ((andI .u64 a 4294967295) * (andI .u64 b 4294967295))) 4294967296))); K ((u64 ((u64 ((u64 ((Int.fdiv a 4294967296) * (Int.fdiv b 4294967296))) + (Int.fdiv x2 4294967296))) + (Int.fdiv (u64 ((u64 ((andI .u64 a 4294967295) * (Int.fdiv b 4294967296))) + (andI .u64 x2 4294967295))) 4294967296))), (u64 (a * b)))
theorem spec_l02Times.t_eq {ρ : Type} (a : Int) (b : Int) (K : (Int × Int) → Option ρ) : spec_l02Times.t a b K = K (spec_l02Times a b) := rfl
theorem spec_l02Times.gives (a : Int) (b : Int) : GivesV Tryz.prog 91 [(cInt .u64).enc a, (cInt .u64).enc b] ((cT2 (cInt .u64) (cInt .u64)).enc (spec_l02Times a b)) :=
  givesT hmix [] 0 none Tryz.func91 rfl rfl ((by kernel_rfl : run1 Tryz.prog (tab []) 0 none noL Tryz.f91 [(cInt .u64).enc a, (cInt .u64).enc b] [] = spec_l02Times.t a b fun r => some ((cT2 (cInt .u64) (cInt .u64)).enc r, [])).trans (spec_l02Times.t_eq a b _))
def spec_l02Times.e : Entry Tryz.prog := entry2 (cInt .u64) (cInt .u64) (cT2 (cInt .u64) (cInt .u64)) 91 spec_l02Times spec_l02Times.gives

/-! ### spec.l02Minus -/
def spec_l02Minus.t {ρ : Type} (w : Wd) (K : Wd → Option ρ) : Option ρ := bif (w.lo == 0) then (K (Wd.mk (w64 (0 - w.hi)) (u64 (0 - w.lo)))) else (K (Wd.mk (xorI .i64 (-1) w.hi) (u64 (0 - w.lo))))
theorem spec_l02Minus.t_eq {ρ : Type} (w : Wd) (K : Wd → Option ρ) : spec_l02Minus.t w K = K (spec_l02Minus w) := cq (fun h0 => rfl) (fun h0 => rfl)
theorem spec_l02Minus.gives (w : Wd) : GivesV Tryz.prog 93 [cWd.enc w] (cWd.enc (spec_l02Minus w)) :=
  givesT hmix [] 0 none Tryz.func93 rfl rfl ((by kernel_rfl : run1 Tryz.prog (tab []) 0 none noL Tryz.f93 [cWd.enc w] [] = spec_l02Minus.t w fun r => some (cWd.enc r, [])).trans (spec_l02Minus.t_eq w _))
def spec_l02Minus.e : Entry Tryz.prog := entry1 cWd cWd 93 spec_l02Minus spec_l02Minus.gives

/-! ### spec.l02Mul -/
def spec_l02Mul.t {ρ : Type} (a : Int) (b : Int) (K : Wd → Option ρ) : Option ρ := let t3 := (spec_l02Times (spec_l02Size a) (spec_l02Size b)); bif (!(decide (a < 0) == decide (b < 0))) then (K (spec_l02Minus (Wd.mk (w64 t3.1) t3.2))) else (K (Wd.mk (w64 t3.1) t3.2))
theorem spec_l02Mul.t_eq {ρ : Type} (a : Int) (b : Int) (K : Wd → Option ρ) : spec_l02Mul.t a b K = K (spec_l02Mul a b) := cq (fun h0 => rfl) (fun h0 => rfl)
theorem spec_l02Mul.gives (a : Int) (b : Int) : GivesV Tryz.prog 81 [(cInt .i64).enc a, (cInt .i64).enc b] (cWd.enc (spec_l02Mul a b)) :=
  givesT hmix [spec_l02Size.e, spec_l02Times.e, spec_l02Minus.e] 0 none Tryz.func81 rfl rfl ((by kernel_rfl : run1 Tryz.prog (tab [spec_l02Size.e, spec_l02Times.e, spec_l02Minus.e]) 0 none noL Tryz.f81 [(cInt .i64).enc a, (cInt .i64).enc b] [] = spec_l02Mul.t a b fun r => some (cWd.enc r, [])).trans (spec_l02Mul.t_eq a b _))
def spec_l02Mul.e : Entry Tryz.prog := entry2 (cInt .i64) (cInt .i64) cWd 81 spec_l02Mul spec_l02Mul.gives

/-! ### spec.l02Shift -/
def spec_l02Shift.t {ρ : Type} (w : Wd) (n : Int) (K : Wd → Option ρ) : Option ρ := bif (n == 0) then (K w) else (bif decide (n < 64) then (bif decide ((u64 n) < 0) then none else (bif decide ((u64 n) < 0) then none else (bif decide ((u64 (w64 (64 - n))) < 0) then none else (K (Wd.mk (Int.fdiv w.hi (2 ^ (min (Int.toNat (u64 n)) 64))) (orI .u64 (Int.fdiv w.lo (2 ^ (min (Int.toNat (u64 n)) 64))) (u64 ((u64 w.hi) * (2 ^ (min (Int.toNat (u64 (w64 (64 - n)))) 64)))))))))) else (bif decide ((u64 (w64 (n - 64))) < 0) then none else (K (Wd.mk (Int.fdiv w.hi 9223372036854775808) (u64 (Int.fdiv w.hi (2 ^ (min (Int.toNat (u64 (w64 (n - 64)))) 64))))))))
theorem spec_l02Shift.t_eq {ρ : Type} (w : Wd) (n : Int) (K : Wd → Option ρ) : spec_l02Shift.t w n K = K (spec_l02Shift w n) := cq (fun h0 => rfl) (fun h0 => cq (fun h1 => cqF (by first | exact u64_neg _ | (simp only [decide_eq_true_eq, decide_eq_false_iff_not] at *; omega) | (simp only [Bool.not_eq_eq_eq_not, Bool.not_false, inside_iff, l00In_iff, decide_eq_true_eq, decide_eq_false_iff_not, w64_def, u64_def] at *; omega)) (fun h2 => cqF (by first | exact u64_neg _ | (simp only [decide_eq_true_eq, decide_eq_false_iff_not] at *; omega) | (simp only [Bool.not_eq_eq_eq_not, Bool.not_false, inside_iff, l00In_iff, decide_eq_true_eq, decide_eq_false_iff_not, w64_def, u64_def] at *; omega)) (fun h3 => cqF (by first | exact u64_neg _ | (simp only [decide_eq_true_eq, decide_eq_false_iff_not] at *; omega) | (simp only [Bool.not_eq_eq_eq_not, Bool.not_false, inside_iff, l00In_iff, decide_eq_true_eq, decide_eq_false_iff_not, w64_def, u64_def] at *; omega)) (fun h4 => rfl)))) (fun h1 => cqF (by first | exact u64_neg _ | (simp only [decide_eq_true_eq, decide_eq_false_iff_not] at *; omega) | (simp only [Bool.not_eq_eq_eq_not, Bool.not_false, inside_iff, l00In_iff, decide_eq_true_eq, decide_eq_false_iff_not, w64_def, u64_def] at *; omega)) (fun h2 => rfl)))
theorem spec_l02Shift.gives (w : Wd) (n : Int) : GivesV Tryz.prog 80 [cWd.enc w, (cInt .i64).enc n] (cWd.enc (spec_l02Shift w n)) :=
  givesT hmix [] 0 none Tryz.func80 rfl rfl ((by kernel_rfl : run1 Tryz.prog (tab []) 0 none noL Tryz.f80 [cWd.enc w, (cInt .i64).enc n] [] = spec_l02Shift.t w n fun r => some (cWd.enc r, [])).trans (spec_l02Shift.t_eq w n _))
def spec_l02Shift.e : Entry Tryz.prog := entry2 cWd (cInt .i64) cWd 80 spec_l02Shift spec_l02Shift.gives

/-! ### spec.l02Of -/
def spec_l02Of.t {ρ : Type} (n : Int) (K : Wd → Option ρ) : Option ρ := bif decide (n < 0) then (K (Wd.mk (-1) (u64 n))) else (K (Wd.mk 0 (u64 n)))
theorem spec_l02Of.t_eq {ρ : Type} (n : Int) (K : Wd → Option ρ) : spec_l02Of.t n K = K (spec_l02Of n) := cq (fun h0 => rfl) (fun h0 => rfl)
theorem spec_l02Of.gives (n : Int) : GivesV Tryz.prog 90 [(cInt .i64).enc n] (cWd.enc (spec_l02Of n)) :=
  givesT hmix [] 0 none Tryz.func90 rfl rfl ((by kernel_rfl : run1 Tryz.prog (tab []) 0 none noL Tryz.f90 [(cInt .i64).enc n] [] = spec_l02Of.t n fun r => some (cWd.enc r, [])).trans (spec_l02Of.t_eq n _))
def spec_l02Of.e : Entry Tryz.prog := entry1 (cInt .i64) cWd 90 spec_l02Of spec_l02Of.gives

/-! ### spec.l02Int -/
def spec_l02Int.t {ρ : Type} (w : Wd) (K : (Int × Bool) → Option ρ) : Option ρ := let t1 := (spec_l02Of (w64 w.lo)); bif (!((t1.hi == w.hi) && (t1.lo == w.lo))) then (K (0, false)) else (K ((w64 w.lo), true))
theorem spec_l02Int.t_eq {ρ : Type} (w : Wd) (K : (Int × Bool) → Option ρ) : spec_l02Int.t w K = K (spec_l02Int w) := cq (fun h0 => rfl) (fun h0 => rfl)
theorem spec_l02Int.gives (w : Wd) : GivesV Tryz.prog 79 [cWd.enc w] ((cT2 (cInt .i64) cBool).enc (spec_l02Int w)) :=
  givesT hmix [spec_l02Of.e] 0 none Tryz.func79 rfl rfl ((by kernel_rfl : run1 Tryz.prog (tab [spec_l02Of.e]) 0 none noL Tryz.f79 [cWd.enc w] [] = spec_l02Int.t w fun r => some ((cT2 (cInt .i64) cBool).enc r, [])).trans (spec_l02Int.t_eq w _))
def spec_l02Int.e : Entry Tryz.prog := entry1 cWd (cT2 (cInt .i64) cBool) 79 spec_l02Int spec_l02Int.gives

/-! ### spec.MulFloor -/
def spec_MulFloor.t {ρ : Type} (a : Int) (b : Int) (shift : Int) (K : (Int × Bool) → Option ρ) : Option ρ := bif (!(spec_l00In shift 0 126)) then (K (0, false)) else (let t4 := (spec_l02Int (spec_l02Shift (spec_l02Mul a b) shift)); K (t4.1, t4.2))
theorem spec_MulFloor.t_eq {ρ : Type} (a : Int) (b : Int) (shift : Int) (K : (Int × Bool) → Option ρ) : spec_MulFloor.t a b shift K = K (spec_MulFloor a b shift) := cq (fun h0 => rfl) (fun h0 => rfl)
theorem spec_MulFloor.gives (a : Int) (b : Int) (shift : Int) : GivesV Tryz.prog 61 [(cInt .i64).enc a, (cInt .i64).enc b, (cInt .i64).enc shift] ((cT2 (cInt .i64) cBool).enc (spec_MulFloor a b shift)) :=
  givesT hmix [spec_l00In.e, spec_l02Mul.e, spec_l02Shift.e, spec_l02Int.e] 0 none Tryz.func61 rfl rfl ((by kernel_rfl : run1 Tryz.prog (tab [spec_l00In.e, spec_l02Mul.e, spec_l02Shift.e, spec_l02Int.e]) 0 none noL Tryz.f61 [(cInt .i64).enc a, (cInt .i64).enc b, (cInt .i64).enc shift] [] = spec_MulFloor.t a b shift fun r => some ((cT2 (cInt .i64) cBool).enc r, [])).trans (spec_MulFloor.t_eq a b shift _))
def spec_MulFloor.e : Entry Tryz.prog := entry3 (cInt .i64) (cInt .i64) (cInt .i64) (cT2 (cInt .i64) cBool) 61 spec_MulFloor spec_MulFloor.gives

/-! ### spec.l03End -/
def spec_l03End.t {ρ : Type} (n : Int) (ok : Bool) (K : (Int × Bool) → Option ρ) : Option ρ := bif (!ok) then (K (0, false)) else (bif (!(spec_l03Ok n)) then (K (0, false)) else (K (n, true)))
theorem spec_l03End.t_eq {ρ : Type} (n : Int) (ok : Bool) (K : (Int × Bool) → Option ρ) : spec_l03End.t n ok K = K (spec_l03End n ok) := cq (fun h0 => rfl) (fun h0 => cq (fun h1 => rfl) (fun h1 => rfl))
theorem spec_l03End.gives (n : Int) (ok : Bool) : GivesV Tryz.prog 62 [(cInt .i64).enc n, cBool.enc ok] ((cT2 (cInt .i64) cBool).enc (spec_l03End n ok)) :=
  givesT hmix [spec_l03Ok.e] 0 none Tryz.func62 rfl rfl ((by kernel_rfl : run1 Tryz.prog (tab [spec_l03Ok.e]) 0 none noL Tryz.f62 [(cInt .i64).enc n, cBool.enc ok] [] = spec_l03End.t n ok fun r => some ((cT2 (cInt .i64) cBool).enc r, [])).trans (spec_l03End.t_eq n ok _))
def spec_l03End.e : Entry Tryz.prog := entry2 (cInt .i64) cBool (cT2 (cInt .i64) cBool) 62 spec_l03End spec_l03End.gives

/-! ### spec.l03MulDown -/
def spec_l03MulDown.t {ρ : Type} (a : Int) (b : Int) (K : (Int × Bool) → Option ρ) : Option ρ := bif (!(spec_l03Ok a)) then (K (0, false)) else (bif (!(spec_l03Ok b)) then (K (0, false)) else (let t3 := (spec_MulFloor a b 32); let t4 := (spec_l03End t3.1 t3.2); K (t4.1, t4.2)))
theorem spec_l03MulDown.t_eq {ρ : Type} (a : Int) (b : Int) (K : (Int × Bool) → Option ρ) : spec_l03MulDown.t a b K = K (spec_l03MulDown a b) := cq (fun h0 => rfl) (fun h0 => cq (fun h1 => rfl) (fun h1 => rfl))
theorem spec_l03MulDown.gives (a : Int) (b : Int) : GivesV Tryz.prog 38 [(cInt .i64).enc a, (cInt .i64).enc b] ((cT2 (cInt .i64) cBool).enc (spec_l03MulDown a b)) :=
  givesT hmix [spec_l03Ok.e, spec_MulFloor.e, spec_l03End.e] 0 none Tryz.func38 rfl rfl ((by kernel_rfl : run1 Tryz.prog (tab [spec_l03Ok.e, spec_MulFloor.e, spec_l03End.e]) 0 none noL Tryz.f38 [(cInt .i64).enc a, (cInt .i64).enc b] [] = spec_l03MulDown.t a b fun r => some ((cT2 (cInt .i64) cBool).enc r, [])).trans (spec_l03MulDown.t_eq a b _))
def spec_l03MulDown.e : Entry Tryz.prog := entry2 (cInt .i64) (cInt .i64) (cT2 (cInt .i64) cBool) 38 spec_l03MulDown spec_l03MulDown.gives

/-! ### spec.l03MulUp -/
def spec_l03MulUp.t {ρ : Type} (a : Int) (b : Int) (K : (Int × Bool) → Option ρ) : Option ρ := let t1 := (spec_l03MulDown (w64 (0 - a)) b); bif (!(spec_l03Ok a)) then (K (0, false)) else (bif (!t1.2) then (K (0, false)) else (K ((w64 (0 - t1.1)), true)))
theorem spec_l03MulUp.t_eq {ρ : Type} (a : Int) (b : Int) (K : (Int × Bool) → Option ρ) : spec_l03MulUp.t a b K = K (spec_l03MulUp a b) := cq (fun h0 => rfl) (fun h0 => cq (fun h1 => rfl) (fun h1 => rfl))
theorem spec_l03MulUp.gives (a : Int) (b : Int) : GivesV Tryz.prog 39 [(cInt .i64).enc a, (cInt .i64).enc b] ((cT2 (cInt .i64) cBool).enc (spec_l03MulUp a b)) :=
  givesT hmix [spec_l03MulDown.e, spec_l03Ok.e] 0 none Tryz.func39 rfl rfl ((by kernel_rfl : run1 Tryz.prog (tab [spec_l03MulDown.e, spec_l03Ok.e]) 0 none noL Tryz.f39 [(cInt .i64).enc a, (cInt .i64).enc b] [] = spec_l03MulUp.t a b fun r => some ((cT2 (cInt .i64) cBool).enc r, [])).trans (spec_l03MulUp.t_eq a b _))
def spec_l03MulUp.e : Entry Tryz.prog := entry2 (cInt .i64) (cInt .i64) (cT2 (cInt .i64) cBool) 39 spec_l03MulUp spec_l03MulUp.gives

/-! ### spec.l04Make -/
def spec_l04Make.t {ρ : Type} (lo_0 : Int) (hi_1 : Int) (K : Iv → Option ρ) : Option ρ := bif (!(spec_l04Ok (Iv.mk lo_0 hi_1))) then (K spec_l04Whole) else (K (Iv.mk lo_0 hi_1))
theorem spec_l04Make.t_eq {ρ : Type} (lo_0 : Int) (hi_1 : Int) (K : Iv → Option ρ) : spec_l04Make.t lo_0 hi_1 K = K (spec_l04Make lo_0 hi_1) := cq (fun h0 => rfl) (fun h0 => rfl)
theorem spec_l04Make.gives (lo_0 : Int) (hi_1 : Int) : GivesV Tryz.prog 36 [(cInt .i64).enc lo_0, (cInt .i64).enc hi_1] (cIv.enc (spec_l04Make lo_0 hi_1)) :=
  givesT hmix [spec_l04Ok.e, spec_l04Whole.e] 0 none Tryz.func36 rfl rfl ((by kernel_rfl : run1 Tryz.prog (tab [spec_l04Ok.e, spec_l04Whole.e]) 0 none noL Tryz.f36 [(cInt .i64).enc lo_0, (cInt .i64).enc hi_1] [] = spec_l04Make.t lo_0 hi_1 fun r => some (cIv.enc r, [])).trans (spec_l04Make.t_eq lo_0 hi_1 _))
def spec_l04Make.e : Entry Tryz.prog := entry2 (cInt .i64) (cInt .i64) cIv 36 spec_l04Make spec_l04Make.gives

/-! ### spec.SqrI -/
def spec_SqrI.t {ρ : Type} (a : Iv) (K : Iv → Option ρ) : Option ρ := bif (!(spec_l04Ok a)) then (K spec_l04Whole) else (let t3 := (spec_l04Ends a); let t4 := (spec_l03MulDown t3.1 t3.1); let t5 := (spec_l03MulUp t3.2 t3.2); bif (!t4.2) then (K spec_l04Whole) else (bif (!t5.2) then (K spec_l04Whole) else (K (spec_l04Make t4.1 t5.1))))
theorem spec_SqrI.t_eq {ρ : Type} (a : Iv) (K : Iv → Option ρ) : spec_SqrI.t a K = K (spec_SqrI a) := cq (fun h0 => rfl) (fun h0 => cq (fun h1 => rfl) (fun h1 => cq (fun h2 => rfl) (fun h2 => rfl)))
theorem spec_SqrI.gives (a : Iv) : GivesV Tryz.prog 10 [cIv.enc a] (cIv.enc (spec_SqrI a)) :=
  givesT hmix [spec_l04Ok.e, spec_l04Whole.e, spec_l04Ends.e, spec_l03MulDown.e, spec_l03MulUp.e, spec_l04Make.e] 0 none Tryz.func10 rfl rfl ((by kernel_rfl : run1 Tryz.prog (tab [spec_l04Ok.e, spec_l04Whole.e, spec_l04Ends.e, spec_l03MulDown.e, spec_l03MulUp.e, spec_l04Make.e]) 0 none noL Tryz.f10 [cIv.enc a] [] = spec_SqrI.t a fun r => some (cIv.enc r, [])).trans (spec_SqrI.t_eq a _))
def spec_SqrI.e : Entry Tryz.prog := entry1 cIv cIv 10 spec_SqrI spec_SqrI.gives

/-! ### spec.AddI -/
def spec_AddI.t {ρ : Type} (a : Iv) (b : Iv) (K : Iv → Option ρ) : Option ρ := bif (!(spec_l04Ok a)) then (K spec_l04Whole) else (bif (!(spec_l04Ok b)) then (K spec_l04Whole) else (K (spec_l04Make (w64 (a.lo + b.lo)) (w64 (a.hi + b.hi)))))
theorem spec_AddI.t_eq {ρ : Type} (a : Iv) (b : Iv) (K : Iv → Option ρ) : spec_AddI.t a b K = K (spec_AddI a b) := cq (fun h0 => rfl) (fun h0 => cq (fun h1 => rfl) (fun h1 => rfl))
theorem spec_AddI.gives (a : Iv) (b : Iv) : GivesV Tryz.prog 9 [cIv.enc a, cIv.enc b] (cIv.enc (spec_AddI a b)) :=
  givesT hmix [spec_l04Ok.e, spec_l04Whole.e, spec_l04Make.e] 0 none Tryz.func9 rfl rfl ((by kernel_rfl : run1 Tryz.prog (tab [spec_l04Ok.e, spec_l04Whole.e, spec_l04Make.e]) 0 none noL Tryz.f9 [cIv.enc a, cIv.enc b] [] = spec_AddI.t a b fun r => some (cIv.enc r, [])).trans (spec_AddI.t_eq a b _))
def spec_AddI.e : Entry Tryz.prog := entry2 cIv cIv cIv 9 spec_AddI spec_AddI.gives

/-! ### spec.MulI -/
def spec_MulI.t {ρ : Type} (d : Iv) (i : Iv) (K : Iv → Option ρ) : Option ρ := bif (!(spec_l04Ok d)) then (K spec_l04Whole) else (bif (!(spec_l04Ok i)) then (K spec_l04Whole) else (let t5 := (spec_l03MulDown d.lo i.lo); let t6 := (spec_l03MulUp d.lo i.lo); bif (!t5.2) then (K spec_l04Whole) else (bif (!t6.2) then (K spec_l04Whole) else (let t11 := (spec_l03MulDown d.lo i.hi); let t12 := (spec_l03MulUp d.lo i.hi); bif (!t11.2) then (K spec_l04Whole) else (bif (!t12.2) then (K spec_l04Whole) else (let t17 := (spec_l03MulDown d.hi i.lo); let t18 := (spec_l03MulUp d.hi i.lo); bif (!t17.2) then (K spec_l04Whole) else (bif (!t18.2) then (K spec_l04Whole) else (let t23 := (spec_l03MulDown d.hi i.hi); let t24 := (spec_l03MulUp d.hi i.hi); bif (!t23.2) then (K spec_l04Whole) else (bif (!t24.2) then (K spec_l04Whole) else (K (spec_l04Make (spec_l00Min (spec_l00Min (spec_l00Min (spec_l00Min 1152921504606846976 t5.1) t11.1) t17.1) t23.1) (spec_l00Max (spec_l00Max (spec_l00Max (spec_l00Max (-1152921504606846976) t6.1) t12.1) t18.1) t24.1))))))))))))
theorem spec_MulI.t_eq {ρ : Type} (d : Iv) (i : Iv) (K : Iv → Option ρ) : spec_MulI.t d i K = K (spec_MulI d i) := cq (fun h0 => rfl) (fun h0 => cq (fun h1 => rfl) (fun h1 => cq (fun h2 => rfl) (fun h2 => cq (fun h3 => rfl) (fun h3 => cq (fun h4 => rfl) (fun h4 => cq (fun h5 => rfl) (fun h5 => cq (fun h6 => rfl) (fun h6 => cq (fun h7 => rfl) (fun h7 => cq (fun h8 => rfl) (fun h8 => cq (fun h9 => rfl) (fun h9 => rfl))))))))))
theorem spec_MulI.gives (d : Iv) (i : Iv) : GivesV Tryz.prog 12 [cIv.enc d, cIv.enc i] (cIv.enc (spec_MulI d i)) :=
  givesT hmix [spec_l04Ok.e, spec_l04Whole.e, spec_l03MulDown.e, spec_l03MulUp.e, spec_l00Min.e, spec_l00Max.e, spec_l04Make.e] 3 none Tryz.func12 rfl rfl ((by kernel_rfl : run1 Tryz.prog (tab [spec_l04Ok.e, spec_l04Whole.e, spec_l03MulDown.e, spec_l03MulUp.e, spec_l00Min.e, spec_l00Max.e, spec_l04Make.e]) 3 none noL Tryz.f12 [cIv.enc d, cIv.enc i] [] = spec_MulI.t d i fun r => some (cIv.enc r, [])).trans (spec_MulI.t_eq d i _))
def spec_MulI.e : Entry Tryz.prog := entry2 cIv cIv cIv 12 spec_MulI spec_MulI.gives

/-! ### spec.MeetI -/
def spec_MeetI.t {ρ : Type} (a : Iv) (b : Iv) (K : (Iv × Bool) → Option ρ) : Option ρ := bif (!(spec_l04Ok a)) then (bif (!(spec_l04Ok b)) then (K (spec_l04Whole, true)) else (bif (!(spec_l04Ok a)) then (K (b, true)) else (bif (!(spec_l04Ok b)) then (K (a, true)) else (let t6 := (spec_l00Max a.lo b.lo); let t7 := (spec_l00Min a.hi b.hi); bif decide (t6 > t7) then (K ((Iv.mk 0 0), false)) else (K ((Iv.mk t6 t7), true)))))) else (bif (!(spec_l04Ok a)) then (K (b, true)) else (bif (!(spec_l04Ok b)) then (K (a, true)) else (let t10 := (spec_l00Max a.lo b.lo); let t11 := (spec_l00Min a.hi b.hi); bif decide (t10 > t11) then (K ((Iv.mk 0 0), false)) else (K ((Iv.mk t10 t11), true)))))
theorem spec_MeetI.t_eq {ρ : Type} (a : Iv) (b : Iv) (K : (Iv × Bool) → Option ρ) : spec_MeetI.t a b K = K (spec_MeetI a b) := cq (fun h0 => cq (fun h1 => rfl) (fun h1 => cq (fun h2 => rfl) (fun h2 => cq (fun h3 => rfl) (fun h3 => cq (fun h4 => rfl) (fun h4 => rfl))))) (fun h0 => cq (fun h1 => rfl) (fun h1 => cq (fun h2 => rfl) (fun h2 => cq (fun h3 => rfl) (fun h3 => rfl))))
theorem spec_MeetI.gives (a : Iv) (b : Iv) : GivesV Tryz.prog 48 [cIv.enc a, cIv.enc b] ((cT2 cIv cBool).enc (spec_MeetI a b)) :=
  givesT hmix [spec_l04Ok.e, spec_l04Whole.e, spec_l00Max.e, spec_l00Min.e] 0 none Tryz.func48 rfl rfl ((by kernel_rfl : run1 Tryz.prog (tab [spec_l04Ok.e, spec_l04Whole.e, spec_l00Max.e, spec_l00Min.e]) 0 none noL Tryz.f48 [cIv.enc a, cIv.enc b] [] = spec_MeetI.t a b fun r => some ((cT2 cIv cBool).enc r, [])).trans (spec_MeetI.t_eq a b _))
def spec_MeetI.e : Entry Tryz.prog := entry2 cIv cIv (cT2 cIv cBool) 48 spec_MeetI spec_MeetI.gives

/-! ### spec.OverlapI -/
def spec_OverlapI.t {ρ : Type} (a : Iv) (b : Iv) (K : Bool → Option ρ) : Option ρ := K ((spec_MeetI a b).2)
theorem spec_OverlapI.t_eq {ρ : Type} (a : Iv) (b : Iv) (K : Bool → Option ρ) : spec_OverlapI.t a b K = K (spec_OverlapI a b) := rfl
theorem spec_OverlapI.gives (a : Iv) (b : Iv) : GivesV Tryz.prog 13 [cIv.enc a, cIv.enc b] (cBool.enc (spec_OverlapI a b)) :=
  givesT hmix [spec_MeetI.e] 0 none Tryz.func13 rfl rfl ((by kernel_rfl : run1 Tryz.prog (tab [spec_MeetI.e]) 0 none noL Tryz.f13 [cIv.enc a, cIv.enc b] [] = spec_OverlapI.t a b fun r => some (cBool.enc r, [])).trans (spec_OverlapI.t_eq a b _))
def spec_OverlapI.e : Entry Tryz.prog := entry2 cIv cIv cBool 13 spec_OverlapI spec_OverlapI.gives

/-! ### spec.E8Fix -/


/-! ### laws.d8Fix -/
def laws_d8Fix.t {ρ : Type} (n : Int) (K : Iv → Option ρ) : Option ρ := K (Iv.mk n n)
theorem laws_d8Fix.t_eq {ρ : Type} (n : Int) (K : Iv → Option ρ) : laws_d8Fix.t n K = K (laws_d8Fix n) := rfl
theorem laws_d8Fix.gives (n : Int) : GivesV Tryz.prog 14 [(cInt .i64).enc n] (cIv.enc (laws_d8Fix n)) :=
  givesT hmix [] 0 none Tryz.func14 rfl rfl ((by kernel_rfl : run1 Tryz.prog (tab []) 0 none noL Tryz.f14 [(cInt .i64).enc n] [] = laws_d8Fix.t n fun r => some (cIv.enc r, [])).trans (laws_d8Fix.t_eq n _))
def laws_d8Fix.e : Entry Tryz.prog := entry1 (cInt .i64) cIv 14 laws_d8Fix laws_d8Fix.gives

/-! ### impl.isAngle -/
def impl_isAngle.t {ρ : Type} (n : Int) (K : Bool → Option ρ) : Option ρ := K (impl_within n (-1099511627776) 1099511627776)
theorem impl_isAngle.t_eq {ρ : Type} (n : Int) (K : Bool → Option ρ) : impl_isAngle.t n K = K (impl_isAngle n) := rfl
theorem impl_isAngle.gives (n : Int) : GivesV Tryz.prog 102 [(cInt .i64).enc n] (cBool.enc (impl_isAngle n)) :=
  givesT hmix [impl_within.e] 0 none Tryz.func102 rfl rfl ((by kernel_rfl : run1 Tryz.prog (tab [impl_within.e]) 0 none noL Tryz.f102 [(cInt .i64).enc n] [] = impl_isAngle.t n fun r => some (cBool.enc r, [])).trans (impl_isAngle.t_eq n _))
def impl_isAngle.e : Entry Tryz.prog := entry1 (cInt .i64) cBool 102 impl_isAngle impl_isAngle.gives

/-! ### impl.areAngles -/
def impl_areAngles.t {ρ : Type} (x : Iv) (K : Bool → Option ρ) : Option ρ := bif (impl_ValidInterval x) then (bif (impl_isAngle x.lo) then (K (impl_isAngle x.hi)) else (K false)) else (K false)
theorem impl_areAngles.t_eq {ρ : Type} (x : Iv) (K : Bool → Option ρ) : impl_areAngles.t x K = K (impl_areAngles x) := cq (fun h0 => cq (fun h1 => rfl) (fun h1 => rfl)) (fun h0 => rfl)
theorem impl_areAngles.gives (x : Iv) : GivesV Tryz.prog 94 [cIv.enc x] (cBool.enc (impl_areAngles x)) :=
  givesT hmix [impl_ValidInterval.e, impl_isAngle.e] 0 none Tryz.func94 rfl rfl ((by kernel_rfl : run1 Tryz.prog (tab [impl_ValidInterval.e, impl_isAngle.e]) 0 none noL Tryz.f94 [cIv.enc x] [] = impl_areAngles.t x fun r => some (cBool.enc r, [])).trans (impl_areAngles.t_eq x _))
def impl_areAngles.e : Entry Tryz.prog := entry1 cIv cBool 94 impl_areAngles impl_areAngles.gives

/-! ### impl.ring -/
def impl_ring.t {ρ : Type} (K : Iv → Option ρ) : Option ρ := K (Iv.mk (-4294967296) 4294967296)
theorem impl_ring.t_eq {ρ : Type} (K : Iv → Option ρ) : impl_ring.t K = K impl_ring := rfl
theorem impl_ring.gives : GivesV Tryz.prog 95 [] (cIv.enc impl_ring) :=
  givesT hmix [] 0 none Tryz.func95 rfl rfl ((by kernel_rfl : run1 Tryz.prog (tab []) 0 none noL Tryz.f95 [] [] = impl_ring.t fun r => some (cIv.enc r, [])).trans (impl_ring.t_eq _))
def impl_ring.e : Entry Tryz.prog := entry0 cIv 95 impl_ring impl_ring.gives

/-! ### impl.QuarterOf -/
def impl_QuarterOf.t {ρ : Type} (n : Int) (K : Int → Option ρ) : Option ρ := bif (!(impl_isAngle n)) then (K 0) else (bif decide ((w64 ((w64 (Int.tdiv (w64 (n + 3373259426)) 6746518852)) * 6746518852)) > (w64 (n + 3373259426))) then (K (w64 ((w64 (Int.tdiv (w64 (n + 3373259426)) 6746518852)) - 1))) else (K (w64 (Int.tdiv (w64 (n + 3373259426)) 6746518852))))
theorem impl_QuarterOf.t_eq {ρ : Type} (n : Int) (K : Int → Option ρ) : impl_QuarterOf.t n K = K (impl_QuarterOf n) := cq (fun h0 => rfl) (fun h0 => cq (fun h1 => rfl) (fun h1 => rfl))
theorem impl_QuarterOf.gives (n : Int) : GivesV Tryz.prog 103 [(cInt .i64).enc n] ((cInt .i64).enc (impl_QuarterOf n)) :=
  givesT hmix [impl_isAngle.e] 0 none Tryz.func103 rfl rfl ((by kernel_rfl : run1 Tryz.prog (tab [impl_isAngle.e]) 0 none noL Tryz.f103 [(cInt .i64).enc n] [] = impl_QuarterOf.t n fun r => some ((cInt .i64).enc r, [])).trans (impl_QuarterOf.t_eq n _))
def impl_QuarterOf.e : Entry Tryz.prog := entry1 (cInt .i64) (cInt .i64) 103 impl_QuarterOf impl_QuarterOf.gives

/-! ### impl.at -/
def impl_at.t {ρ : Type} (n : Int) (K : Iv → Option ρ) : Option ρ := K (Iv.mk n n)
theorem impl_at.t_eq {ρ : Type} (n : Int) (K : Iv → Option ρ) : impl_at.t n K = K (impl_at n) := rfl
theorem impl_at.gives (n : Int) : GivesV Tryz.prog 104 [(cInt .i64).enc n] (cIv.enc (impl_at n)) :=
  givesT hmix [] 0 none Tryz.func104 rfl rfl ((by kernel_rfl : run1 Tryz.prog (tab []) 0 none noL Tryz.f104 [(cInt .i64).enc n] [] = impl_at.t n fun r => some (cIv.enc r, [])).trans (impl_at.t_eq n _))
def impl_at.e : Entry Tryz.prog := entry1 (cInt .i64) cIv 104 impl_at impl_at.gives

/-! ### impl.TurnI -/
def impl_TurnI.A.t {ρ : Type} (k : Int) (K : Iv → Option ρ) : Option ρ := bif (!(impl_within k (-4096) 4096)) then (K impl_Whole) else (bif decide (k < 0) then none else (bif (k == 0) then (K (Iv.mk 0 0)) else (let t3 := (impl_MulFloor k 7244019458077122842 30); K (Iv.mk t3.1 (w64 (t3.1 + 1))))))
theorem impl_TurnI.A.t_eq {ρ : Type} (k : Int) (hpre : (decide (0 ≤ k)) = true) (K : Iv → Option ρ) : impl_TurnI.A.t k K = K (impl_TurnI.A k) := cq (fun h0 => rfl) (fun h0 => cqF (by first | exact u64_neg _ | (simp only [decide_eq_true_eq, decide_eq_false_iff_not] at *; omega) | (simp only [Bool.not_eq_eq_eq_not, Bool.not_false, inside_iff, l00In_iff, decide_eq_true_eq, decide_eq_false_iff_not, w64_def, u64_def] at *; omega)) (fun h1 => cq (fun h2 => rfl) (fun h2 => rfl)))
theorem impl_TurnI.A.gives (k : Int) (hpre : (decide (0 ≤ k)) = true) : GivesV Tryz.prog 105 [(cInt .i64).enc k] (cIv.enc (impl_TurnI.A k)) :=
  givesT hmix [impl_within.e, impl_Whole.e, impl_MulFloor.e] 0 none Tryz.func105 rfl rfl ((by kernel_rfl : run1 Tryz.prog (tab [impl_within.e, impl_Whole.e, impl_MulFloor.e]) 0 none noL Tryz.f105 [(cInt .i64).enc k] [] = impl_TurnI.A.t k fun r => some (cIv.enc r, [])).trans (impl_TurnI.A.t_eq k hpre _))
def impl_TurnI.A.e : Entry Tryz.prog := entry1P (cInt .i64) cIv 105 impl_TurnI.A (fun k => decide (0 ≤ k)) impl_TurnI.A.gives
/-! ### impl.TurnI -/
def impl_TurnI.t {ρ : Type} (k : Int) (K : Iv → Option ρ) : Option ρ := bif (!(impl_within k (-4096) 4096)) then (K impl_Whole) else (bif decide (k < 0) then (bif decide (0 ≤ (w64 (0 - k))) then (K (impl_NegI (impl_TurnI.A (w64 (0 - k))))) else none) else (bif (k == 0) then (K (Iv.mk 0 0)) else (let t5 := (impl_MulFloor k 7244019458077122842 30); K (Iv.mk t5.1 (w64 (t5.1 + 1))))))
theorem impl_TurnI.t_eq {ρ : Type} (k : Int) (K : Iv → Option ρ) : impl_TurnI.t k K = K (impl_TurnI k) := cq (fun h0 => rfl) (fun h0 => cq (fun h1 => cqT (by first | exact u64_neg _ | (simp only [decide_eq_true_eq, decide_eq_false_iff_not] at *; omega) | (simp only [Bool.not_eq_eq_eq_not, Bool.not_false, inside_iff, l00In_iff, decide_eq_true_eq, decide_eq_false_iff_not, w64_def, u64_def] at *; omega)) (fun h2 => rfl)) (fun h1 => cq (fun h2 => rfl) (fun h2 => rfl)))
theorem impl_TurnI.gives (k : Int) : GivesV Tryz.prog 105 [(cInt .i64).enc k] (cIv.enc (impl_TurnI k)) :=
  givesT hmix [impl_within.e, impl_Whole.e, impl_TurnI.A.e, impl_NegI.e, impl_MulFloor.e] 0 none Tryz.func105 rfl rfl ((by kernel_rfl : run1 Tryz.prog (tab [impl_within.e, impl_Whole.e, impl_TurnI.A.e, impl_NegI.e, impl_MulFloor.e]) 0 none noL Tryz.f105 [(cInt .i64).enc k] [] = impl_TurnI.t k fun r => some (cIv.enc r, [])).trans (impl_TurnI.t_eq k _))
def impl_TurnI.e : Entry Tryz.prog := entry1 (cInt .i64) cIv 105 impl_TurnI impl_TurnI.gives

/-! ### impl.InsideI -/
def impl_InsideI.t {ρ : Type} (a : Iv) (b : Iv) (K : Bool → Option ρ) : Option ρ := bif (impl_IsWhole a) then (K (impl_IsWhole b)) else (bif (impl_IsWhole b) then (K (impl_IsWhole b)) else (bif decide (b.lo ≤ a.lo) then (K (decide (a.hi ≤ b.hi))) else (K false)))
theorem impl_InsideI.t_eq {ρ : Type} (a : Iv) (b : Iv) (K : Bool → Option ρ) : impl_InsideI.t a b K = K (impl_InsideI a b) := cq (fun h0 => rfl) (fun h0 => cq (fun h1 => rfl) (fun h1 => cq (fun h2 => rfl) (fun h2 => rfl)))
theorem impl_InsideI.gives (a : Iv) (b : Iv) : GivesV Tryz.prog 110 [cIv.enc a, cIv.enc b] (cBool.enc (impl_InsideI a b)) :=
  givesT hmix [impl_IsWhole.e] 0 none Tryz.func110 rfl rfl ((by kernel_rfl : run1 Tryz.prog (tab [impl_IsWhole.e]) 0 none noL Tryz.f110 [cIv.enc a, cIv.enc b] [] = impl_InsideI.t a b fun r => some (cBool.enc r, [])).trans (impl_InsideI.t_eq a b _))
def impl_InsideI.e : Entry Tryz.prog := entry2 cIv cIv cBool 110 impl_InsideI impl_InsideI.gives

/-! ### impl.SqrI -/
def impl_SqrI.t {ρ : Type} (a : Iv) (K : Iv → Option ρ) : Option ρ := bif (impl_IsWhole a) then (K impl_Whole) else (let t3 := (impl_AbsI a); let t4 := (impl_MulDown t3.lo t3.lo); let t5 := (impl_MulUp t3.hi t3.hi); bif t4.2 then (K (impl_bounded t4.1 t5.1 t5.2)) else (K (impl_bounded t4.1 t5.1 false)))
theorem impl_SqrI.t_eq {ρ : Type} (a : Iv) (K : Iv → Option ρ) : impl_SqrI.t a K = K (impl_SqrI a) := cq (fun h0 => rfl) (fun h0 => cq (fun h1 => rfl) (fun h1 => rfl))
theorem impl_SqrI.gives (a : Iv) : GivesV Tryz.prog 112 [cIv.enc a] (cIv.enc (impl_SqrI a)) :=
  givesT hmix [impl_IsWhole.e, impl_Whole.e, impl_AbsI.e, impl_MulDown.e, impl_MulUp.e, impl_bounded.e] 0 none Tryz.func112 rfl rfl ((by kernel_rfl : run1 Tryz.prog (tab [impl_IsWhole.e, impl_Whole.e, impl_AbsI.e, impl_MulDown.e, impl_MulUp.e, impl_bounded.e]) 0 none noL Tryz.f112 [cIv.enc a] [] = impl_SqrI.t a fun r => some (cIv.enc r, [])).trans (impl_SqrI.t_eq a _))
def impl_SqrI.e : Entry Tryz.prog := entry1 cIv cIv 112 impl_SqrI impl_SqrI.gives

/-! ### impl.Integer -/
def impl_Integer.t {ρ : Type} (n : Int) (K : Iv → Option ρ) : Option ρ := bif (!(impl_within n (-268435456) 268435456)) then (K impl_Whole) else (K (impl_bounded (w64 (n * 4294967296)) (w64 (n * 4294967296)) true))
theorem impl_Integer.t_eq {ρ : Type} (n : Int) (K : Iv → Option ρ) : impl_Integer.t n K = K (impl_Integer n) := cq (fun h0 => rfl) (fun h0 => rfl)
theorem impl_Integer.gives (n : Int) : GivesV Tryz.prog 99 [(cInt .i64).enc n] (cIv.enc (impl_Integer n)) :=
  givesT hmix [impl_within.e, impl_Whole.e, impl_bounded.e] 0 none Tryz.func99 rfl rfl ((by kernel_rfl : run1 Tryz.prog (tab [impl_within.e, impl_Whole.e, impl_bounded.e]) 0 none noL Tryz.f99 [(cInt .i64).enc n] [] = impl_Integer.t n fun r => some (cIv.enc r, [])).trans (impl_Integer.t_eq n _))
def impl_Integer.e : Entry Tryz.prog := entry1 (cInt .i64) cIv 99 impl_Integer impl_Integer.gives

/-! ### bits.Len64 -/
theorem bits_Len64.gives (x : Int) (hpre : (decide (0 ≤ x ∧ x < 18446744073709551616)) = true) : GivesV Tryz.prog 119 [(cInt .u64).enc x] ((cInt .i64).enc (bits_Len64 x)) := by
  simp only [decide_eq_true_eq] at hpre
  exact givesC Tryz.func119 rfl (by kernel_rfl) rfl rfl (fun w => Go.Proofs.Tryz.bits_Len64 x w (by omega) (by omega))
def bits_Len64.e : Entry Tryz.prog := entry1P (cInt .u64) (cInt .i64) 119 bits_Len64 (fun x => decide (0 ≤ x ∧ x < 18446744073709551616)) bits_Len64.gives


/-! ### bits.LeadingZeros64 -/
def bits_LeadingZeros64.t {ρ : Type} (x : Int) (K : Int → Option ρ) : Option ρ := bif decide (0 ≤ x ∧ x < 18446744073709551616) then (K (w64 (64 - (bits_Len64 x)))) else none
theorem bits_LeadingZeros64.t_eq {ρ : Type} (x : Int) (hpre : (decide (0 ≤ x ∧ x < 18446744073709551616)) = true) (K : Int → Option ρ) : bits_LeadingZeros64.t x K = K (bits_LeadingZeros64 x) := cqT (by first | exact u64_neg _ | (simp only [decide_eq_true_eq, decide_eq_false_iff_not] at *; omega) | (simp only [Bool.not_eq_eq_eq_not, Bool.not_false, inside_iff, l00In_iff, decide_eq_true_eq, decide_eq_false_iff_not, w64_def, u64_def] at *; omega)) (fun h0 => rfl)
theorem bits_LeadingZeros64.gives (x : Int) (hpre : (decide (0 ≤ x ∧ x < 18446744073709551616)) = true) : GivesV Tryz.prog 118 [(cInt .u64).enc x] ((cInt .i64).enc (bits_LeadingZeros64 x)) :=
  givesT hmix [bits_Len64.e] 0 none Tryz.func118 rfl rfl ((by kernel_rfl : run1 Tryz.prog (tab [bits_Len64.e]) 0 none noL Tryz.f118 [(cInt .u64).enc x] [] = bits_LeadingZeros64.t x fun r => some ((cInt .i64).enc r, [])).trans (bits_LeadingZeros64.t_eq x hpre _))
def bits_LeadingZeros64.e : Entry Tryz.prog := entry1P (cInt .u64) (cInt .i64) 118 bits_LeadingZeros64 (fun x => decide (0 ≤ x ∧ x < 18446744073709551616)) bits_LeadingZeros64.gives

/-! ### bits.Div64 -/
def bits_Div64.ls : Option (List Nat) := some [2, 8, 9, 10, 11, 13, 14, 15, 16, 17, 18]
def bits_Div64.env17 (y_ : Int) (s_ : Int) (yn1 : Int) (yn0 : Int) (un32 : Int) (un1 : Int) (un0 : Int) (v : Int × Int) : Env := [(2, .int .u64 y_), (8, .int .u64 s_), (9, .int .u64 yn1), (10, .int .u64 yn0), (11, .int .u64 un32), (13, .int .u64 un1), (14, .int .u64 un0), (15, .int .u64 v.1), (16, .int .u64 v.2)]
def bits_Div64.heap17 (y_ : Int) (s_ : Int) (yn1 : Int) (yn0 : Int) (un32 : Int) (un1 : Int) (un0 : Int) (v : Int × Int) : LH := []
def bits_Div64.L17 : LEntry := ⟨17, fun _ tm σ K => match tm, σ with
  | [(2, .int .u64 y_), (8, .int .u64 s_), (9, .int .u64 yn1), (10, .int .u64 yn0), (11, .int .u64 un32), (13, .int .u64 un1), (14, .int .u64 un0), (15, .int .u64 q1), (16, .int .u64 rhat)], [] => (match decide (2147483648 ≤ yn1 ∧ yn1 < 4294967296 ∧ 0 ≤ rhat ∧ rhat < 4294967296) with | true => K (.exit 0) (bits_Div64.env17 y_ s_ yn1 yn0 un32 un1 un0 (bits_Div64.fin17 y_ s_ yn1 yn0 un32 un1 un0 (q1, rhat))) (bits_Div64.heap17 y_ s_ yn1 yn0 un32 un1 un0 (bits_Div64.fin17 y_ s_ yn1 yn0 un32 un1 un0 (q1, rhat))) | false => none)
  | _, _ => none⟩
def bits_Div64.env24 (y_ : Int) (s_ : Int) (yn1 : Int) (yn0 : Int) (un32 : Int) (un1 : Int) (un0 : Int) (q1 : Int) (un21 : Int) (v : Int × Int) : Env := [(2, .int .u64 y_), (8, .int .u64 s_), (9, .int .u64 yn1), (10, .int .u64 yn0), (11, .int .u64 un32), (13, .int .u64 un1), (14, .int .u64 un0), (15, .int .u64 q1), (16, .int .u64 v.1), (17, .int .u64 un21), (18, .int .u64 v.2)]
def bits_Div64.heap24 (y_ : Int) (s_ : Int) (yn1 : Int) (yn0 : Int) (un32 : Int) (un1 : Int) (un0 : Int) (q1 : Int) (un21 : Int) (v : Int × Int) : LH := []
def bits_Div64.L24 : LEntry := ⟨24, fun _ tm σ K => match tm, σ with
  | [(2, .int .u64 y_), (8, .int .u64 s_), (9, .int .u64 yn1), (10, .int .u64 yn0), (11, .int .u64 un32), (13, .int .u64 un1), (14, .int .u64 un0), (15, .int .u64 q1), (16, .int .u64 rhat), (17, .int .u64 un21), (18, .int .u64 q0)], [] => (match decide (2147483648 ≤ yn1 ∧ yn1 < 4294967296 ∧ 0 ≤ rhat ∧ rhat < 4294967296) with | true => K (.exit 2) (bits_Div64.env24 y_ s_ yn1 yn0 un32 un1 un0 q1 un21 (bits_Div64.fin24 y_ s_ yn1 yn0 un32 un1 un0 q1 un21 (rhat, q0))) (bits_Div64.heap24 y_ s_ yn1 yn0 un32 un1 un0 q1 un21 (bits_Div64.fin24 y_ s_ yn1 yn0 un32 un1 un0 q1 un21 (rhat, q0))) | false => none)
  | _, _ => none⟩
def bits_Div64.lt17 {ρ : Type} (y_ : Int) (s_ : Int) (yn1 : Int) (yn0 : Int) (un32 : Int) (un1 : Int) (un0 : Int) (q1 : Int) (rhat : Int) (K : Sum (Int × Int) (Int × Int) → Option ρ) : Option ρ := bif decide (q1 ≥ 4294967296) then (bif decide ((u64 (rhat + yn1)) ≥ 4294967296) then (K (Sum.inr ((u64 (q1 - 1)), (u64 (rhat + yn1))))) else (K (Sum.inl ((u64 (q1 - 1)), (u64 (rhat + yn1)))))) else (bif decide ((u64 (q1 * yn0)) > (u64 ((u64 (4294967296 * rhat)) + un1))) then (bif decide ((u64 (rhat + yn1)) ≥ 4294967296) then (K (Sum.inr ((u64 (q1 - 1)), (u64 (rhat + yn1))))) else (K (Sum.inl ((u64 (q1 - 1)), (u64 (rhat + yn1)))))) else (K (Sum.inr (q1, rhat))))
theorem bits_Div64.lt17_eq {ρ : Type} (y_ : Int) (s_ : Int) (yn1 : Int) (yn0 : Int) (un32 : Int) (un1 : Int) (un0 : Int) (q1 : Int) (rhat : Int) (hpre : 2147483648 ≤ yn1 ∧ yn1 < 4294967296 ∧ 0 ≤ rhat ∧ rhat < 4294967296) (K : Sum (Int × Int) (Int × Int) → Option ρ) : bits_Div64.lt17 y_ s_ yn1 yn0 un32 un1 un0 q1 rhat K = K (bits_Div64.rnd17 y_ s_ yn1 yn0 un32 un1 un0 q1 rhat) := cq (fun h0 => cq (fun h1 => rfl) (fun h1 => rfl)) (fun h0 => cq (fun h1 => cq (fun h2 => rfl) (fun h2 => rfl)) (fun h1 => rfl))
theorem bits_Div64.step17 (y_ : Int) (s_ : Int) (yn1 : Int) (yn0 : Int) (un32 : Int) (un1 : Int) (un0 : Int) (q1 : Int) (rhat : Int) (k : Nat) (R : Type) (K : LX → Env → LH → Option R) : loopN Tryz.prog 0 bits_Div64.ls (k + 1) (exec Tryz.prog (tab (P := Tryz.prog) [bits_LeadingZeros64.e]) 0 135 0 bits_Div64.ls (lam [bits_Div64.L17, bits_Div64.L24]) (cOf Tryz.f116 0)) (bits_Div64.env17 y_ s_ yn1 yn0 un32 un1 un0 (q1, rhat)) (bits_Div64.heap17 y_ s_ yn1 yn0 un32 un1 un0 (q1, rhat)) K = bits_Div64.lt17 y_ s_ yn1 yn0 un32 un1 un0 q1 rhat (sumK (fun v => loopN Tryz.prog 0 bits_Div64.ls k (exec Tryz.prog (tab (P := Tryz.prog) [bits_LeadingZeros64.e]) 0 135 0 bits_Div64.ls (lam [bits_Div64.L17, bits_Div64.L24]) (cOf Tryz.f116 0)) (bits_Div64.env17 y_ s_ yn1 yn0 un32 un1 un0 v) (bits_Div64.heap17 y_ s_ yn1 yn0 un32 un1 un0 v) K) (fun v => K (.exit 0) (bits_Div64.env17 y_ s_ yn1 yn0 un32 un1 un0 v) (bits_Div64.heap17 y_ s_ yn1 yn0 un32 un1 un0 v))) := by kernel_rfl
theorem bits_Div64.dec17 (y_ : Int) (s_ : Int) (yn1 : Int) (yn0 : Int) (un32 : Int) (un1 : Int) (un0 : Int) (v : Int × Int) (hv : 2147483648 ≤ yn1 ∧ yn1 < 4294967296 ∧ 0 ≤ v.2 ∧ v.2 < 4294967296) (v' : Int × Int) (hr : bits_Div64.rnd17 y_ s_ yn1 yn0 un32 un1 un0 v.1 v.2 = Sum.inl v') : (2147483648 ≤ yn1 ∧ yn1 < 4294967296 ∧ 0 ≤ v'.2 ∧ v'.2 < 4294967296) ∧ (if v'.2 < 2147483648 then 1 else 0) < (if v.2 < 2147483648 then 1 else 0) := by
  simp only [bits_Div64.rnd17, Bool.cond_eq_ite, decide_eq_true_eq] at hr
  have e : u64 (v.2 + yn1) = v.2 + yn1 := u64_id (by omega) (by omega)
  simp only [e] at hr
  (repeat' split at hr) <;> cases hr <;> (simp only []; split <;> split <;> omega)
theorem bits_Div64.to17 : bits_Div64.L17.Ok Tryz.prog (tab (P := Tryz.prog) [bits_LeadingZeros64.e]) 0 135 0 bits_Div64.ls (lam [bits_Div64.L17, bits_Div64.L24]) (cOf Tryz.f116 0) := by
  intro R tm σ K r h
  simp only [bits_Div64.L17] at h
  split at h
  case h_2 => simp at h
  split at h
  case h_2 => simp at h
  rename_i y_ s_ yn1 yn0 un32 un1 un0 q1 rhat _ hc
  exact ⟨_, _, _, h, loop_to (x := 0) (rnd := (fun v : Int × Int => bits_Div64.rnd17 y_ s_ yn1 yn0 un32 un1 un0 v.1 v.2)) (env := fun v : Int × Int => bits_Div64.env17 y_ s_ yn1 yn0 un32 un1 un0 v) (heap := fun v : Int × Int => bits_Div64.heap17 y_ s_ yn1 yn0 un32 un1 un0 v) (Inv := (fun v : Int × Int => 2147483648 ≤ yn1 ∧ yn1 < 4294967296 ∧ 0 ≤ v.2 ∧ v.2 < 4294967296)) (μ := (fun v : Int × Int => (if v.2 < 2147483648 then 1 else 0))) (fun v hv k R K => (bits_Div64.step17 y_ s_ yn1 yn0 un32 un1 un0 v.1 v.2 k R K).trans (bits_Div64.lt17_eq y_ s_ yn1 yn0 un32 un1 un0 v.1 v.2 hv (sumK (fun v => loopN Tryz.prog 0 bits_Div64.ls k (exec Tryz.prog (tab (P := Tryz.prog) [bits_LeadingZeros64.e]) 0 135 0 bits_Div64.ls (lam [bits_Div64.L17, bits_Div64.L24]) (cOf Tryz.f116 0)) (bits_Div64.env17 y_ s_ yn1 yn0 un32 un1 un0 v) (bits_Div64.heap17 y_ s_ yn1 yn0 un32 un1 un0 v) K) (fun v => K (.exit 0) (bits_Div64.env17 y_ s_ yn1 yn0 un32 un1 un0 v) (bits_Div64.heap17 y_ s_ yn1 yn0 un32 un1 un0 v))))) (fun v hv v' hr => bits_Div64.dec17 y_ s_ yn1 yn0 un32 un1 un0 v hv v' hr) 2 (q1, rhat) (by have := of_decide_eq_true hc; simp only []; omega) (by simp only []; split <;> omega)⟩
def bits_Div64.lt24 {ρ : Type} (y_ : Int) (s_ : Int) (yn1 : Int) (yn0 : Int) (un32 : Int) (un1 : Int) (un0 : Int) (q1 : Int) (un21 : Int) (rhat : Int) (q0 : Int) (K : Sum (Int × Int) (Int × Int) → Option ρ) : Option ρ := bif decide (q0 ≥ 4294967296) then (bif decide ((u64 (rhat + yn1)) ≥ 4294967296) then (K (Sum.inr ((u64 (rhat + yn1)), (u64 (q0 - 1))))) else (K (Sum.inl ((u64 (rhat + yn1)), (u64 (q0 - 1)))))) else (bif decide ((u64 (q0 * yn0)) > (u64 ((u64 (4294967296 * rhat)) + un0))) then (bif decide ((u64 (rhat + yn1)) ≥ 4294967296) then (K (Sum.inr ((u64 (rhat + yn1)), (u64 (q0 - 1))))) else (K (Sum.inl ((u64 (rhat + yn1)), (u64 (q0 - 1)))))) else (K (Sum.inr (rhat, q0))))
theorem bits_Div64.lt24_eq {ρ : Type} (y_ : Int) (s_ : Int) (yn1 : Int) (yn0 : Int) (un32 : Int) (un1 : Int) (un0 : Int) (q1 : Int) (un21 : Int) (rhat : Int) (q0 : Int) (hpre : 2147483648 ≤ yn1 ∧ yn1 < 4294967296 ∧ 0 ≤ rhat ∧ rhat < 4294967296) (K : Sum (Int × Int) (Int × Int) → Option ρ) : bits_Div64.lt24 y_ s_ yn1 yn0 un32 un1 un0 q1 un21 rhat q0 K = K (bits_Div64.rnd24 y_ s_ yn1 yn0 un32 un1 un0 q1 un21 rhat q0) := cq (fun h0 => cq (fun h1 => rfl) (fun h1 => rfl)) (fun h0 => cq (fun h1 => cq (fun h2 => rfl) (fun h2 => rfl)) (fun h1 => rfl))
theorem bits_Div64.step24 (y_ : Int) (s_ : Int) (yn1 : Int) (yn0 : Int) (un32 : Int) (un1 : Int) (un0 : Int) (q1 : Int) (un21 : Int) (rhat : Int) (q0 : Int) (k : Nat) (R : Type) (K : LX → Env → LH → Option R) : loopN Tryz.prog 0 bits_Div64.ls (k + 1) (exec Tryz.prog (tab (P := Tryz.prog) [bits_LeadingZeros64.e]) 0 135 0 bits_Div64.ls (lam [bits_Div64.L17, bits_Div64.L24]) (cOf Tryz.f116 1)) (bits_Div64.env24 y_ s_ yn1 yn0 un32 un1 un0 q1 un21 (rhat, q0)) (bits_Div64.heap24 y_ s_ yn1 yn0 un32 un1 un0 q1 un21 (rhat, q0)) K = bits_Div64.lt24 y_ s_ yn1 yn0 un32 un1 un0 q1 un21 rhat q0 (sumK (fun v => loopN Tryz.prog 0 bits_Div64.ls k (exec Tryz.prog (tab (P := Tryz.prog) [bits_LeadingZeros64.e]) 0 135 0 bits_Div64.ls (lam [bits_Div64.L17, bits_Div64.L24]) (cOf Tryz.f116 1)) (bits_Div64.env24 y_ s_ yn1 yn0 un32 un1 un0 q1 un21 v) (bits_Div64.heap24 y_ s_ yn1 yn0 un32 un1 un0 q1 un21 v) K) (fun v => K (.exit 2) (bits_Div64.env24 y_ s_ yn1 yn0 un32 un1 un0 q1 un21 v) (bits_Div64.heap24 y_ s_ yn1 yn0 un32 un1 un0 q1 un21 v))) := by kernel_rfl
theorem bits_Div64.dec24 (y_ : Int) (s_ : Int) (yn1 : Int) (yn0 : Int) (un32 : Int) (un1 : Int) (un0 : Int) (q1 : Int) (un21 : Int) (v : Int × Int) (hv : 2147483648 ≤ yn1 ∧ yn1 < 4294967296 ∧ 0 ≤ v.1 ∧ v.1 < 4294967296) (v' : Int × Int) (hr : bits_Div64.rnd24 y_ s_ yn1 yn0 un32 un1 un0 q1 un21 v.1 v.2 = Sum.inl v') : (2147483648 ≤ yn1 ∧ yn1 < 4294967296 ∧ 0 ≤ v'.1 ∧ v'.1 < 4294967296) ∧ (if v'.1 < 2147483648 then 1 else 0) < (if v.1 < 2147483648 then 1 else 0) := by
  simp only [bits_Div64.rnd24, Bool.cond_eq_ite, decide_eq_true_eq] at hr
  have e : u64 (v.1 + yn1) = v.1 + yn1 := u64_id (by omega) (by omega)
  simp only [e] at hr
  (repeat' split at hr) <;> cases hr <;> (simp only []; split <;> split <;> omega)
theorem bits_Div64.to24 : bits_Div64.L24.Ok Tryz.prog (tab (P := Tryz.prog) [bits_LeadingZeros64.e]) 0 135 0 bits_Div64.ls (lam [bits_Div64.L17, bits_Div64.L24]) (cOf Tryz.f116 1) := by
  intro R tm σ K r h
  simp only [bits_Div64.L24] at h
  split at h
  case h_2 => simp at h
  split at h
  case h_2 => simp at h
  rename_i y_ s_ yn1 yn0 un32 un1 un0 q1 rhat un21 q0 _ hc
  exact ⟨_, _, _, h, loop_to (x := 2) (rnd := (fun v : Int × Int => bits_Div64.rnd24 y_ s_ yn1 yn0 un32 un1 un0 q1 un21 v.1 v.2)) (env := fun v : Int × Int => bits_Div64.env24 y_ s_ yn1 yn0 un32 un1 un0 q1 un21 v) (heap := fun v : Int × Int => bits_Div64.heap24 y_ s_ yn1 yn0 un32 un1 un0 q1 un21 v) (Inv := (fun v : Int × Int => 2147483648 ≤ yn1 ∧ yn1 < 4294967296 ∧ 0 ≤ v.1 ∧ v.1 < 4294967296)) (μ := (fun v : Int × Int => (if v.1 < 2147483648 then 1 else 0))) (fun v hv k R K => (bits_Div64.step24 y_ s_ yn1 yn0 un32 un1 un0 q1 un21 v.1 v.2 k R K).trans (bits_Div64.lt24_eq y_ s_ yn1 yn0 un32 un1 un0 q1 un21 v.1 v.2 hv (sumK (fun v => loopN Tryz.prog 0 bits_Div64.ls k (exec Tryz.prog (tab (P := Tryz.prog) [bits_LeadingZeros64.e]) 0 135 0 bits_Div64.ls (lam [bits_Div64.L17, bits_Div64.L24]) (cOf Tryz.f116 1)) (bits_Div64.env24 y_ s_ yn1 yn0 un32 un1 un0 q1 un21 v) (bits_Div64.heap24 y_ s_ yn1 yn0 un32 un1 un0 q1 un21 v) K) (fun v => K (.exit 2) (bits_Div64.env24 y_ s_ yn1 yn0 un32 un1 un0 q1 un21 v) (bits_Div64.heap24 y_ s_ yn1 yn0 un32 un1 un0 q1 un21 v))))) (fun v hv v' hr => bits_Div64.dec24 y_ s_ yn1 yn0 un32 un1 un0 q1 un21 v hv v' hr) 2 (rhat, q0) (by have := of_decide_eq_true hc; simp only []; omega) (by simp only []; split <;> omega)⟩
theorem bits_Div64.lok : ∀ c, Tryz.f116.body = some c → LamOk Tryz.prog (tab (P := Tryz.prog) [bits_LeadingZeros64.e]) 0 Tryz.f116.ntmps 0 bits_Div64.ls (lam [bits_Div64.L17, bits_Div64.L24]) (loopsOf c) := by
  intro c hc
  have hb : loopsOf c = [(cOf Tryz.f116 0), (cOf Tryz.f116 1)] := by
    have h : loopsOf (Tryz.f116.body.getD .skip) = [(cOf Tryz.f116 0), (cOf Tryz.f116 1)] := by kernel_rfl
    rw [hc] at h
    exact h
  exact lam_ok2 hb (by kernel_rfl) (by kernel_rfl) bits_Div64.to17 bits_Div64.to24
def bits_Div64.t {ρ : Type} (d : Int) (i : Int) (a2 : Int) (K : (Int × Int) → Option ρ) : Option ρ := bif (a2 == 0) then none else (bif decide (a2 ≤ d) then none else (bif (d == 0) then (bif decide (a2 = 0) then none else (bif decide (a2 = 0) then none else (K ((u64 (Int.tdiv i a2)), (Int.tmod i a2))))) else (bif decide (0 ≤ a2 ∧ a2 < 18446744073709551616) then (let t1 := (bits_LeadingZeros64 a2); bif decide ((u64 t1) < 0) then none else (let x2 := (Int.fdiv (u64 (a2 * (2 ^ (min (Int.toNat (u64 t1)) 64)))) 4294967296); let x3 := (andI .u64 (u64 (a2 * (2 ^ (min (Int.toNat (u64 t1)) 64)))) 4294967295); bif decide ((u64 t1) < 0) then none else (bif decide ((u64 (64 - (u64 t1))) < 0) then none else (let x5 := (orI .u64 (u64 (d * (2 ^ (min (Int.toNat (u64 t1)) 64)))) (Int.fdiv i (2 ^ (min (Int.toNat (u64 (64 - (u64 t1)))) 64)))); bif decide ((u64 t1) < 0) then none else (let x6 := (Int.fdiv (u64 (i * (2 ^ (min (Int.toNat (u64 t1)) 64)))) 4294967296); let x7 := (andI .u64 (u64 (i * (2 ^ (min (Int.toNat (u64 t1)) 64)))) 4294967295); bif decide (x2 = 0) then none else (bif decide (2147483648 ≤ x2 ∧ x2 < 4294967296 ∧ 0 ≤ (u64 (x5 - (u64 ((u64 (Int.tdiv x5 x2)) * x2)))) ∧ (u64 (x5 - (u64 ((u64 (Int.tdiv x5 x2)) * x2)))) < 4294967296) then (let t8 := (bits_Div64.fin17 ((u64 (a2 * (2 ^ (min (Int.toNat (u64 t1)) 64))))) ((u64 t1)) x2 x3 x5 x6 x7 ((u64 (Int.tdiv x5 x2)), (u64 (x5 - (u64 ((u64 (Int.tdiv x5 x2)) * x2)))))); let x9 := (u64 (t8.1 * (u64 (a2 * (2 ^ (min (Int.toNat (u64 t1)) 64)))))); bif decide (x2 = 0) then none else (let x10 := (u64 (Int.tdiv (u64 ((u64 ((u64 (x5 * 4294967296)) + x6)) - x9)) x2)); let x11 := (u64 ((u64 ((u64 ((u64 (x5 * 4294967296)) + x6)) - x9)) - (u64 (x10 * x2)))); bif decide (2147483648 ≤ x2 ∧ x2 < 4294967296 ∧ 0 ≤ x11 ∧ x11 < 4294967296) then (let t12 := (bits_Div64.fin24 ((u64 (a2 * (2 ^ (min (Int.toNat (u64 t1)) 64))))) ((u64 t1)) x2 x3 x5 x6 x7 t8.1 ((u64 ((u64 ((u64 (x5 * 4294967296)) + x6)) - x9))) (x11, x10)); bif decide ((u64 t1) < 0) then none else (K ((u64 ((u64 (t8.1 * 4294967296)) + t12.2)), (Int.fdiv (u64 ((u64 ((u64 ((u64 ((u64 ((u64 (x5 * 4294967296)) + x6)) - x9)) * 4294967296)) + x7)) - (u64 (t12.2 * (u64 (a2 * (2 ^ (min (Int.toNat (u64 t1)) 64)))))))) (2 ^ (min (Int.toNat (u64 t1)) 64)))))) else none)) else none)))))) else none)))
theorem bits_Div64.t_eq {ρ : Type} (d : Int) (i : Int) (a2 : Int) (hpre : (decide (0 ≤ d ∧ d < a2 ∧ a2 < 18446744073709551616 ∧ 0 ≤ i ∧ i < 18446744073709551616)) = true) (K : (Int × Int) → Option ρ) : bits_Div64.t d i a2 K = K (bits_Div64 d i a2) := cqF (by first | exact u64_neg _ | exact d64_c (d64_x2 hpre) (orI_rng _ _) | exact d64_c (d64_x2 hpre) (u64_rng _) | exact d64_x2_ne hpre | (simp only [decide_eq_true_eq, decide_eq_false_iff_not, beq_eq_false_iff_ne, ne_eq] at *; omega)) (fun h0 => cqF (by first | exact u64_neg _ | exact d64_c (d64_x2 hpre) (orI_rng _ _) | exact d64_c (d64_x2 hpre) (u64_rng _) | exact d64_x2_ne hpre | (simp only [decide_eq_true_eq, decide_eq_false_iff_not, beq_eq_false_iff_ne, ne_eq] at *; omega)) (fun h1 => cq (fun h2 => cqF (by first | exact u64_neg _ | exact d64_c (d64_x2 hpre) (orI_rng _ _) | exact d64_c (d64_x2 hpre) (u64_rng _) | exact d64_x2_ne hpre | (simp only [decide_eq_true_eq, decide_eq_false_iff_not, beq_eq_false_iff_ne, ne_eq] at *; omega)) (fun h3 => cqF (by first | exact u64_neg _ | exact d64_c (d64_x2 hpre) (orI_rng _ _) | exact d64_c (d64_x2 hpre) (u64_rng _) | exact d64_x2_ne hpre | (simp only [decide_eq_true_eq, decide_eq_false_iff_not, beq_eq_false_iff_ne, ne_eq] at *; omega)) (fun h4 => rfl))) (fun h2 => cqT (by first | exact u64_neg _ | exact d64_c (d64_x2 hpre) (orI_rng _ _) | exact d64_c (d64_x2 hpre) (u64_rng _) | exact d64_x2_ne hpre | (simp only [decide_eq_true_eq, decide_eq_false_iff_not, beq_eq_false_iff_ne, ne_eq] at *; omega)) (fun h3 => cqF (by first | exact u64_neg _ | exact d64_c (d64_x2 hpre) (orI_rng _ _) | exact d64_c (d64_x2 hpre) (u64_rng _) | exact d64_x2_ne hpre | (simp only [decide_eq_true_eq, decide_eq_false_iff_not, beq_eq_false_iff_ne, ne_eq] at *; omega)) (fun h4 => cqF (by first | exact u64_neg _ | exact d64_c (d64_x2 hpre) (orI_rng _ _) | exact d64_c (d64_x2 hpre) (u64_rng _) | exact d64_x2_ne hpre | (simp only [decide_eq_true_eq, decide_eq_false_iff_not, beq_eq_false_iff_ne, ne_eq] at *; omega)) (fun h5 => cqF (by first | exact u64_neg _ | exact d64_c (d64_x2 hpre) (orI_rng _ _) | exact d64_c (d64_x2 hpre) (u64_rng _) | exact d64_x2_ne hpre | (simp only [decide_eq_true_eq, decide_eq_false_iff_not, beq_eq_false_iff_ne, ne_eq] at *; omega)) (fun h6 => cqF (by first | exact u64_neg _ | exact d64_c (d64_x2 hpre) (orI_rng _ _) | exact d64_c (d64_x2 hpre) (u64_rng _) | exact d64_x2_ne hpre | (simp only [decide_eq_true_eq, decide_eq_false_iff_not, beq_eq_false_iff_ne, ne_eq] at *; omega)) (fun h7 => cqF (by first | exact u64_neg _ | exact d64_c (d64_x2 hpre) (orI_rng _ _) | exact d64_c (d64_x2 hpre) (u64_rng _) | exact d64_x2_ne hpre | (simp only [decide_eq_true_eq, decide_eq_false_iff_not, beq_eq_false_iff_ne, ne_eq] at *; omega)) (fun h8 => cqT (by first | exact u64_neg _ | exact d64_c (d64_x2 hpre) (orI_rng _ _) | exact d64_c (d64_x2 hpre) (u64_rng _) | exact d64_x2_ne hpre | (simp only [decide_eq_true_eq, decide_eq_false_iff_not, beq_eq_false_iff_ne, ne_eq] at *; omega)) (fun h9 => cqF (by first | exact u64_neg _ | exact d64_c (d64_x2 hpre) (orI_rng _ _) | exact d64_c (d64_x2 hpre) (u64_rng _) | exact d64_x2_ne hpre | (simp only [decide_eq_true_eq, decide_eq_false_iff_not, beq_eq_false_iff_ne, ne_eq] at *; omega)) (fun h10 => cqT (by first | exact u64_neg _ | exact d64_c (d64_x2 hpre) (orI_rng _ _) | exact d64_c (d64_x2 hpre) (u64_rng _) | exact d64_x2_ne hpre | (simp only [decide_eq_true_eq, decide_eq_false_iff_not, beq_eq_false_iff_ne, ne_eq] at *; omega)) (fun h11 => cqF (by first | exact u64_neg _ | exact d64_c (d64_x2 hpre) (orI_rng _ _) | exact d64_c (d64_x2 hpre) (u64_rng _) | exact d64_x2_ne hpre | (simp only [decide_eq_true_eq, decide_eq_false_iff_not, beq_eq_false_iff_ne, ne_eq] at *; omega)) (fun h12 => rfl)))))))))))))
theorem bits_Div64.gives (d : Int) (i : Int) (a2 : Int) (hpre : (decide (0 ≤ d ∧ d < a2 ∧ a2 < 18446744073709551616 ∧ 0 ≤ i ∧ i < 18446744073709551616)) = true) : GivesV Tryz.prog 116 [(cInt .u64).enc d, (cInt .u64).enc i, (cInt .u64).enc a2] ((cT2 (cInt .u64) (cInt .u64)).enc (bits_Div64 d i a2)) :=
  givesL hmix [bits_LeadingZeros64.e] 0 bits_Div64.ls (lam [bits_Div64.L17, bits_Div64.L24]) Tryz.func116 rfl rfl bits_Div64.lok ((by kernel_rfl : run1 Tryz.prog (tab [bits_LeadingZeros64.e]) 0 bits_Div64.ls (lam [bits_Div64.L17, bits_Div64.L24]) Tryz.f116 [(cInt .u64).enc d, (cInt .u64).enc i, (cInt .u64).enc a2] [] = bits_Div64.t d i a2 fun r => some ((cT2 (cInt .u64) (cInt .u64)).enc r, [])).trans (bits_Div64.t_eq d i a2 hpre _))
def bits_Div64.e : Entry Tryz.prog := entry3P (cInt .u64) (cInt .u64) (cInt .u64) (cT2 (cInt .u64) (cInt .u64)) 116 bits_Div64 (fun d i a2 => decide (0 ≤ d ∧ d < a2 ∧ a2 < 18446744073709551616 ∧ 0 ≤ i ∧ i < 18446744073709551616)) bits_Div64.gives

/-! ### impl.divided -/
def impl_divided.t {ρ : Type} (hi_0 : Int) (lo_1 : Int) (d : Int) (K : (Int × Int × Int) → Option ρ) : Option ρ := bif decide (d = 0) then none else (bif decide (d = 0) then none else (bif decide (0 ≤ (Int.tmod hi_0 d) ∧ (Int.tmod hi_0 d) < d ∧ d < 18446744073709551616 ∧ 0 ≤ lo_1 ∧ lo_1 < 18446744073709551616) then (let t1 := (bits_Div64 (Int.tmod hi_0 d) lo_1 d); K ((u64 (Int.tdiv hi_0 d)), t1.1, t1.2)) else none))
theorem impl_divided.t_eq {ρ : Type} (hi_0 : Int) (lo_1 : Int) (d : Int) (hpre : (decide (0 ≤ hi_0 ∧ hi_0 < 18446744073709551616 ∧ 0 ≤ lo_1 ∧ lo_1 < 18446744073709551616 ∧ 0 < d ∧ d < 18446744073709551616)) = true) (K : (Int × Int × Int) → Option ρ) : impl_divided.t hi_0 lo_1 d K = K (impl_divided hi_0 lo_1 d) := cqF (by first | exact pd_divided hpre | (simp only [decide_eq_true_eq, decide_eq_false_iff_not] at *; omega)) (fun h0 => cqF (by first | exact pd_divided hpre | (simp only [decide_eq_true_eq, decide_eq_false_iff_not] at *; omega)) (fun h1 => cqT (by first | exact pd_divided hpre | (simp only [decide_eq_true_eq, decide_eq_false_iff_not] at *; omega)) (fun h2 => rfl)))
theorem impl_divided.gives (hi_0 : Int) (lo_1 : Int) (d : Int) (hpre : (decide (0 ≤ hi_0 ∧ hi_0 < 18446744073709551616 ∧ 0 ≤ lo_1 ∧ lo_1 < 18446744073709551616 ∧ 0 < d ∧ d < 18446744073709551616)) = true) : GivesV Tryz.prog 114 [(cInt .u64).enc hi_0, (cInt .u64).enc lo_1, (cInt .u64).enc d] ((cT3 (cInt .u64) (cInt .u64) (cInt .u64)).enc (impl_divided hi_0 lo_1 d)) :=
  givesT hmix [bits_Div64.e] 0 none Tryz.func114 rfl rfl ((by kernel_rfl : run1 Tryz.prog (tab [bits_Div64.e]) 0 none noL Tryz.f114 [(cInt .u64).enc hi_0, (cInt .u64).enc lo_1, (cInt .u64).enc d] [] = impl_divided.t hi_0 lo_1 d fun r => some ((cT3 (cInt .u64) (cInt .u64) (cInt .u64)).enc r, [])).trans (impl_divided.t_eq hi_0 lo_1 d hpre _))
def impl_divided.e : Entry Tryz.prog := entry3P (cInt .u64) (cInt .u64) (cInt .u64) (cT3 (cInt .u64) (cInt .u64) (cInt .u64)) 114 impl_divided (fun hi_0 lo_1 d => decide (0 ≤ hi_0 ∧ hi_0 < 18446744073709551616 ∧ 0 ≤ lo_1 ∧ lo_1 < 18446744073709551616 ∧ 0 < d ∧ d < 18446744073709551616)) impl_divided.gives

/-! ### bits.Sub64 -/
def sub64E : Array Value → Sem Value := fun args => do
  let (x, y, b) ← Extern.MathBitsCarry.three "Sub64" args
  pure (Extern.MathBitsCarry.pair ((x + Extern.MathBitsCarry.m64 - y - b) % Extern.MathBitsCarry.m64) (if x < y + b then 1 else 0))
theorem bits_Sub64.ext (x y c : Int) (h : decide (0 ≤ c ∧ c ≤ 1) = true) (w : World) : (callFunc 117 #[.int .u64 x, .int .u64 y, .int .u64 c]).run Tryz.prog w = .ok (.value ((cT2 (cInt .u64) (cInt .u64)).enc (bits_Sub64 x y c))) w := by
  have hc : c = 0 ∨ c = 1 := by simp only [decide_eq_true_eq] at h; omega
  rcases hc with rfl | rfl <;> (rw [run_callFunc_extern Tryz.func117 (by kernel_rfl) (by kernel_rfl) (by kernel_rfl) (e := sub64E) (by kernel_rfl)]; rfl)
def bits_Sub64.e : Entry Tryz.prog := entryX3 (cInt .u64) (cInt .u64) (cInt .u64) (cT2 (cInt .u64) (cInt .u64)) 117 bits_Sub64 (fun x y c => decide (0 ≤ c ∧ c ≤ 1)) bits_Sub64.ext


/-! ### impl.Wide).negative -/
def impl_Wide_negative.t {ρ : Type} (w : Wd) (K : Wd → Option ρ) : Option ρ := let t1 := (bits_Sub64 0 w.lo 0); bif decide (0 ≤ t1.2 ∧ t1.2 ≤ 1) then (K (Wd.mk (w64 (bits_Sub64 0 (u64 w.hi) t1.2).1) t1.1)) else none
theorem impl_Wide_negative.t_eq {ρ : Type} (w : Wd) (K : Wd → Option ρ) : impl_Wide_negative.t w K = K (impl_Wide_negative w) := cqT (by exact sub64_borrow _ _ _) (fun h0 => rfl)
theorem impl_Wide_negative.gives (w : Wd) : GivesV Tryz.prog 115 [cWd.enc w] (cWd.enc (impl_Wide_negative w)) :=
  givesT hmix [bits_Sub64.e] 0 none Tryz.func115 rfl rfl ((by kernel_rfl : run1 Tryz.prog (tab [bits_Sub64.e]) 0 none noL Tryz.f115 [cWd.enc w] [] = impl_Wide_negative.t w fun r => some (cWd.enc r, [])).trans (impl_Wide_negative.t_eq w _))
def impl_Wide_negative.e : Entry Tryz.prog := entry1 cWd cWd 115 impl_Wide_negative impl_Wide_negative.gives

/-! ### impl.WideDiv -/
def impl_WideDiv.t {ρ : Type} (d : Wd) (i : Int) (K : (Wd × Int × Bool) → Option ρ) : Option ρ := bif decide (i ≤ 0) then (K ((Wd.mk 0 0), 0, false)) else (bif decide (d.hi ≥ 0) then (bif decide (0 ≤ (u64 d.hi) ∧ (u64 d.hi) < 18446744073709551616 ∧ 0 ≤ d.lo ∧ d.lo < 18446744073709551616 ∧ 0 < (u64 i) ∧ (u64 i) < 18446744073709551616) then (let t1 := (impl_divided (u64 d.hi) d.lo (u64 i)); K ((Wd.mk (w64 t1.1) t1.2.1), (w64 t1.2.2), true)) else none) else (let t2 := (impl_Wide_negative d); bif decide (0 ≤ (u64 t2.hi) ∧ (u64 t2.hi) < 18446744073709551616 ∧ 0 ≤ t2.lo ∧ t2.lo < 18446744073709551616 ∧ 0 < (u64 i) ∧ (u64 i) < 18446744073709551616) then (let t3 := (impl_divided (u64 t2.hi) t2.lo (u64 i)); bif (t3.2.2 == 0) then (K ((impl_Wide_negative (Wd.mk (w64 t3.1) t3.2.1)), 0, true)) else (let t5 := (bits_Add64 t3.2.1 1 0); K ((impl_Wide_negative (Wd.mk (w64 (u64 (t3.1 + t5.2))) t5.1)), (w64 (i - (w64 t3.2.2))), true))) else none))
theorem impl_WideDiv.t_eq {ρ : Type} (d : Wd) (i : Int) (hpre : (decide (0 ≤ d.lo ∧ d.lo < 18446744073709551616 ∧ i ≤ 9223372036854775807)) = true) (K : (Wd × Int × Bool) → Option ρ) : impl_WideDiv.t d i K = K (impl_WideDiv d i) := cq (fun h0 => rfl) (fun h0 => cq (fun h1 => cqT (by first | with_reducible exact pd_wd1 hpre h0 | with_reducible exact pd_wd2 hpre h0) (fun h2 => rfl)) (fun h1 => cqT (by first | with_reducible exact pd_wd1 hpre h0 | with_reducible exact pd_wd2 hpre h0) (fun h2 => cq (fun h3 => rfl) (fun h3 => rfl))))
theorem impl_WideDiv.gives (d : Wd) (i : Int) (hpre : (decide (0 ≤ d.lo ∧ d.lo < 18446744073709551616 ∧ i ≤ 9223372036854775807)) = true) : GivesV Tryz.prog 109 [cWd.enc d, (cInt .i64).enc i] ((cT3 cWd (cInt .i64) cBool).enc (impl_WideDiv d i)) :=
  givesT hmix [impl_divided.e, impl_Wide_negative.e, bits_Add64.e] 0 none Tryz.func109 rfl rfl ((by kernel_rfl : run1 Tryz.prog (tab [impl_divided.e, impl_Wide_negative.e, bits_Add64.e]) 0 none noL Tryz.f109 [cWd.enc d, (cInt .i64).enc i] [] = impl_WideDiv.t d i fun r => some ((cT3 cWd (cInt .i64) cBool).enc r, [])).trans (impl_WideDiv.t_eq d i hpre _))
def impl_WideDiv.e : Entry Tryz.prog := entry2P cWd (cInt .i64) (cT3 cWd (cInt .i64) cBool) 109 impl_WideDiv (fun d i => decide (0 ≤ d.lo ∧ d.lo < 18446744073709551616 ∧ i ≤ 9223372036854775807)) impl_WideDiv.gives

/-! ### impl.MulDivFloor -/
def impl_MulDivFloor.t {ρ : Type} (a : Int) (b : Int) (d : Int) (K : (Int × Bool) → Option ρ) : Option ρ := let t1 := (impl_WideMul a b); bif decide (0 ≤ t1.lo ∧ t1.lo < 18446744073709551616 ∧ d ≤ 9223372036854775807) then (let t2 := (impl_WideDiv t1 d); bif (!t2.2.2) then (K (0, false)) else (let t3 := (impl_WideInt t2.1); K (t3.1, t3.2))) else none
theorem impl_MulDivFloor.t_eq {ρ : Type} (a : Int) (b : Int) (d : Int) (hpre : (decide (d ≤ 9223372036854775807)) = true) (K : (Int × Bool) → Option ρ) : impl_MulDivFloor.t a b d K = K (impl_MulDivFloor a b d) := cqT (by exact pd_mul hpre) (fun h0 => cq (fun h1 => rfl) (fun h1 => rfl))
theorem impl_MulDivFloor.gives (a : Int) (b : Int) (d : Int) (hpre : (decide (d ≤ 9223372036854775807)) = true) : GivesV Tryz.prog 100 [(cInt .i64).enc a, (cInt .i64).enc b, (cInt .i64).enc d] ((cT2 (cInt .i64) cBool).enc (impl_MulDivFloor a b d)) :=
  givesT hmix [impl_WideMul.e, impl_WideDiv.e, impl_WideInt.e] 0 none Tryz.func100 rfl rfl ((by kernel_rfl : run1 Tryz.prog (tab [impl_WideMul.e, impl_WideDiv.e, impl_WideInt.e]) 0 none noL Tryz.f100 [(cInt .i64).enc a, (cInt .i64).enc b, (cInt .i64).enc d] [] = impl_MulDivFloor.t a b d fun r => some ((cT2 (cInt .i64) cBool).enc r, [])).trans (impl_MulDivFloor.t_eq a b d hpre _))
def impl_MulDivFloor.e : Entry Tryz.prog := entry3P (cInt .i64) (cInt .i64) (cInt .i64) (cT2 (cInt .i64) cBool) 100 impl_MulDivFloor (fun a b d => decide (d ≤ 9223372036854775807)) impl_MulDivFloor.gives

/-! ### impl.DivDown -/
def impl_DivDown.t {ρ : Type} (a : Int) (b : Int) (K : (Int × Bool) → Option ρ) : Option ρ := bif (!(impl_ValidFix a)) then (K (0, false)) else (bif (!(impl_ValidFix b)) then (K (0, false)) else (bif decide (b < 0) then (bif decide ((w64 (0 - b)) ≤ 9223372036854775807) then (let t3 := (impl_MulDivFloor (w64 (0 - a)) 4294967296 (w64 (0 - b))); let t4 := (impl_fixed t3.1 t3.2); K (t4.1, t4.2)) else none) else (bif decide (b ≤ 9223372036854775807) then (let t5 := (impl_MulDivFloor a 4294967296 b); let t6 := (impl_fixed t5.1 t5.2); K (t6.1, t6.2)) else none)))
theorem impl_DivDown.t_eq {ρ : Type} (a : Int) (b : Int) (K : (Int × Bool) → Option ρ) : impl_DivDown.t a b K = K (impl_DivDown a b) := cq (fun h0 => rfl) (fun h0 => cq (fun h1 => rfl) (fun h1 => cq (fun h2 => cqT (by first | exact decide_eq_true (w64_le _) | exact pd_fix h1) (fun h3 => rfl)) (fun h2 => cqT (by first | exact decide_eq_true (w64_le _) | exact pd_fix h1) (fun h3 => rfl))))
theorem impl_DivDown.gives (a : Int) (b : Int) : GivesV Tryz.prog 86 [(cInt .i64).enc a, (cInt .i64).enc b] ((cT2 (cInt .i64) cBool).enc (impl_DivDown a b)) :=
  givesT hmix [impl_ValidFix.e, impl_MulDivFloor.e, impl_fixed.e] 0 none Tryz.func86 rfl rfl ((by kernel_rfl : run1 Tryz.prog (tab [impl_ValidFix.e, impl_MulDivFloor.e, impl_fixed.e]) 0 none noL Tryz.f86 [(cInt .i64).enc a, (cInt .i64).enc b] [] = impl_DivDown.t a b fun r => some ((cT2 (cInt .i64) cBool).enc r, [])).trans (impl_DivDown.t_eq a b _))
def impl_DivDown.e : Entry Tryz.prog := entry2 (cInt .i64) (cInt .i64) (cT2 (cInt .i64) cBool) 86 impl_DivDown impl_DivDown.gives

/-! ### impl.DivUp -/
def impl_DivUp.t {ρ : Type} (a : Int) (b : Int) (K : (Int × Bool) → Option ρ) : Option ρ := bif (!(impl_ValidFix a)) then (K (0, false)) else (bif (!(impl_ValidFix b)) then (K (0, false)) else (let t3 := (impl_DivDown (w64 (0 - a)) b); K ((w64 (0 - t3.1)), t3.2)))
theorem impl_DivUp.t_eq {ρ : Type} (a : Int) (b : Int) (K : (Int × Bool) → Option ρ) : impl_DivUp.t a b K = K (impl_DivUp a b) := cq (fun h0 => rfl) (fun h0 => cq (fun h1 => rfl) (fun h1 => rfl))
theorem impl_DivUp.gives (a : Int) (b : Int) : GivesV Tryz.prog 87 [(cInt .i64).enc a, (cInt .i64).enc b] ((cT2 (cInt .i64) cBool).enc (impl_DivUp a b)) :=
  givesT hmix [impl_ValidFix.e, impl_DivDown.e] 0 none Tryz.func87 rfl rfl ((by kernel_rfl : run1 Tryz.prog (tab [impl_ValidFix.e, impl_DivDown.e]) 0 none noL Tryz.f87 [(cInt .i64).enc a, (cInt .i64).enc b] [] = impl_DivUp.t a b fun r => some ((cT2 (cInt .i64) cBool).enc r, [])).trans (impl_DivUp.t_eq a b _))
def impl_DivUp.e : Entry Tryz.prog := entry2 (cInt .i64) (cInt .i64) (cT2 (cInt .i64) cBool) 87 impl_DivUp impl_DivUp.gives

/-! ### impl.DivI -/
def impl_DivI.t {ρ : Type} (a : Iv) (b : Iv) (K : Iv → Option ρ) : Option ρ := bif (!(impl_areBounded a b)) then (K impl_Whole) else (bif (impl_HasI b 0) then (K impl_Whole) else (let t5 := (impl_DivDown a.lo b.lo); let t6 := (impl_DivUp a.lo b.lo); bif (!t5.2) then (K impl_Whole) else (bif (!t6.2) then (K impl_Whole) else (let t9 := (impl_DivDown a.lo b.hi); let t10 := (impl_DivUp a.lo b.hi); bif (!t9.2) then (K impl_Whole) else (bif (!t10.2) then (K impl_Whole) else (let t13 := (impl_DivDown a.hi b.lo); let t14 := (impl_DivUp a.hi b.lo); bif (!t13.2) then (K impl_Whole) else (bif (!t14.2) then (K impl_Whole) else (let t17 := (impl_DivDown a.hi b.hi); let t18 := (impl_DivUp a.hi b.hi); bif (!t17.2) then (K impl_Whole) else (bif (!t18.2) then (K impl_Whole) else (K (impl_bounded (mnI (mnI (mnI (mnI t5.1 t5.1) t9.1) t13.1) t17.1) (mxI (mxI (mxI (mxI t6.1 t6.1) t10.1) t14.1) t18.1) true)))))))))))
theorem impl_DivI.t_eq {ρ : Type} (a : Iv) (b : Iv) (K : Iv → Option ρ) : impl_DivI.t a b K = K (impl_DivI a b) := cq (fun h0 => rfl) (fun h0 => cq (fun h1 => rfl) (fun h1 => cq (fun h2 => rfl) (fun h2 => cq (fun h3 => rfl) (fun h3 => cq (fun h4 => rfl) (fun h4 => cq (fun h5 => rfl) (fun h5 => cq (fun h6 => rfl) (fun h6 => cq (fun h7 => rfl) (fun h7 => cq (fun h8 => rfl) (fun h8 => cq (fun h9 => rfl) (fun h9 => rfl))))))))))
theorem impl_DivI.gives (a : Iv) (b : Iv) : GivesV Tryz.prog 75 [cIv.enc a, cIv.enc b] (cIv.enc (impl_DivI a b)) :=
  givesT hmix [impl_areBounded.e, impl_Whole.e, impl_HasI.e, (inl hmix [impl_DivDown.e, impl_DivUp.e, impl_Whole.e, impl_bounded.e] 3 57 Tryz.f57 Tryz.func57 rfl)] 3 none Tryz.func75 rfl rfl ((by kernel_rfl : run1 Tryz.prog (tab [impl_areBounded.e, impl_Whole.e, impl_HasI.e, (inl hmix [impl_DivDown.e, impl_DivUp.e, impl_Whole.e, impl_bounded.e] 3 57 Tryz.f57 Tryz.func57 rfl)]) 3 none noL Tryz.f75 [cIv.enc a, cIv.enc b] [] = impl_DivI.t a b fun r => some (cIv.enc r, [])).trans (impl_DivI.t_eq a b _))
def impl_DivI.e : Entry Tryz.prog := entry2 cIv cIv cIv 75 impl_DivI impl_DivI.gives

/-! ### impl.series -/
def impl_series.t {ρ : Type} (y : Iv) (first : Int) (K : Iv → Option ρ) : Option ρ := K (impl_SubI (impl_Integer 1) (impl_MulI (impl_DivI y (impl_Integer (w64 ((w64 (first + 0)) * (w64 ((w64 (first + 0)) + 1)))))) (impl_SubI (impl_Integer 1) (impl_MulI (impl_DivI y (impl_Integer (w64 ((w64 (first + 2)) * (w64 ((w64 (first + 2)) + 1)))))) (impl_SubI (impl_Integer 1) (impl_MulI (impl_DivI y (impl_Integer (w64 ((w64 (first + 4)) * (w64 ((w64 (first + 4)) + 1)))))) (impl_SubI (impl_Integer 1) (impl_MulI (impl_DivI y (impl_Integer (w64 ((w64 (first + 6)) * (w64 ((w64 (first + 6)) + 1)))))) (impl_SubI (impl_Integer 1) (impl_MulI (impl_DivI y (impl_Integer (w64 ((w64 (first + 8)) * (w64 ((w64 (first + 8)) + 1)))))) (impl_SubI (impl_Integer 1) (impl_MulI (impl_DivI y (impl_Integer (w64 ((w64 (first + 10)) * (w64 ((w64 (first + 10)) + 1)))))) (impl_SubI (impl_Integer 1) (impl_MulI (impl_DivI y (impl_Integer (w64 ((w64 (first + 12)) * (w64 ((w64 (first + 12)) + 1)))))) (impl_SubI (impl_Integer 1) (impl_MulI (impl_DivI y (impl_Integer (w64 ((w64 (first + 14)) * (w64 ((w64 (first + 14)) + 1)))))) (impl_Integer 1)))))))))))))))))
theorem impl_series.t_eq {ρ : Type} (y : Iv) (first : Int) (K : Iv → Option ρ) : impl_series.t y first K = K (impl_series y first) := rfl
theorem impl_series.gives (y : Iv) (first : Int) : GivesV Tryz.prog 111 [cIv.enc y, (cInt .i64).enc first] (cIv.enc (impl_series y first)) :=
  givesT hmix [impl_Integer.e, impl_DivI.e, impl_MulI.e, impl_SubI.e] 9 none Tryz.func111 rfl rfl ((by kernel_rfl : run1 Tryz.prog (tab [impl_Integer.e, impl_DivI.e, impl_MulI.e, impl_SubI.e]) 9 none noL Tryz.f111 [cIv.enc y, (cInt .i64).enc first] [] = impl_series.t y first fun r => some (cIv.enc r, [])).trans (impl_series.t_eq y first _))
def impl_series.e : Entry Tryz.prog := entry2 cIv (cInt .i64) cIv 111 impl_series impl_series.gives

/-! ### impl.tiny -/
def impl_tiny.t {ρ : Type} (K : Iv → Option ρ) : Option ρ := K (Iv.mk (-1) 1)
theorem impl_tiny.t_eq {ρ : Type} (K : Iv → Option ρ) : impl_tiny.t K = K impl_tiny := rfl
theorem impl_tiny.gives : GivesV Tryz.prog 113 [] (cIv.enc impl_tiny) :=
  givesT hmix [] 0 none Tryz.func113 rfl rfl ((by kernel_rfl : run1 Tryz.prog (tab []) 0 none noL Tryz.f113 [] [] = impl_tiny.t fun r => some (cIv.enc r, [])).trans (impl_tiny.t_eq _))
def impl_tiny.e : Entry Tryz.prog := entry0 cIv 113 impl_tiny impl_tiny.gives

/-! ### impl.SinSeries -/
def impl_SinSeries.t {ρ : Type} (x : Iv) (K : Iv → Option ρ) : Option ρ := bif (!(impl_InsideI x impl_ring)) then (K impl_Whole) else (K (impl_AddI (impl_MulI x (impl_series (impl_SqrI x) 2)) impl_tiny))
theorem impl_SinSeries.t_eq {ρ : Type} (x : Iv) (K : Iv → Option ρ) : impl_SinSeries.t x K = K (impl_SinSeries x) := cq (fun h0 => rfl) (fun h0 => rfl)
theorem impl_SinSeries.gives (x : Iv) : GivesV Tryz.prog 107 [cIv.enc x] (cIv.enc (impl_SinSeries x)) :=
  givesT hmix [impl_ring.e, impl_InsideI.e, impl_Whole.e, impl_SqrI.e, impl_series.e, impl_MulI.e, impl_tiny.e, impl_AddI.e] 0 none Tryz.func107 rfl rfl ((by kernel_rfl : run1 Tryz.prog (tab [impl_ring.e, impl_InsideI.e, impl_Whole.e, impl_SqrI.e, impl_series.e, impl_MulI.e, impl_tiny.e, impl_AddI.e]) 0 none noL Tryz.f107 [cIv.enc x] [] = impl_SinSeries.t x fun r => some (cIv.enc r, [])).trans (impl_SinSeries.t_eq x _))
def impl_SinSeries.e : Entry Tryz.prog := entry1 cIv cIv 107 impl_SinSeries impl_SinSeries.gives

/-! ### impl.MeetI -/
def impl_MeetI.t {ρ : Type} (a : Iv) (b : Iv) (K : (Iv × Bool) → Option ρ) : Option ρ := bif (impl_IsWhole a) then (bif (impl_IsWhole b) then (K (impl_Whole, true)) else (bif (impl_IsWhole a) then (K (b, true)) else (bif (impl_IsWhole b) then (K (a, true)) else (bif decide ((mxI a.lo b.lo) > (mnI a.hi b.hi)) then (K ((Iv.mk 0 0), false)) else (K ((Iv.mk (mxI a.lo b.lo) (mnI a.hi b.hi)), true)))))) else (bif (impl_IsWhole a) then (K (b, true)) else (bif (impl_IsWhole b) then (K (a, true)) else (bif decide ((mxI a.lo b.lo) > (mnI a.hi b.hi)) then (K ((Iv.mk 0 0), false)) else (K ((Iv.mk (mxI a.lo b.lo) (mnI a.hi b.hi)), true)))))
theorem impl_MeetI.t_eq {ρ : Type} (a : Iv) (b : Iv) (K : (Iv × Bool) → Option ρ) : impl_MeetI.t a b K = K (impl_MeetI a b) := cq (fun h0 => cq (fun h1 => rfl) (fun h1 => cq (fun h2 => rfl) (fun h2 => cq (fun h3 => rfl) (fun h3 => cq (fun h4 => rfl) (fun h4 => rfl))))) (fun h0 => cq (fun h1 => rfl) (fun h1 => cq (fun h2 => rfl) (fun h2 => cq (fun h3 => rfl) (fun h3 => rfl))))
theorem impl_MeetI.gives (a : Iv) (b : Iv) : GivesV Tryz.prog 74 [cIv.enc a, cIv.enc b] ((cT2 cIv cBool).enc (impl_MeetI a b)) :=
  givesT hmix [impl_IsWhole.e, impl_Whole.e] 0 none Tryz.func74 rfl rfl ((by kernel_rfl : run1 Tryz.prog (tab [impl_IsWhole.e, impl_Whole.e]) 0 none noL Tryz.f74 [cIv.enc a, cIv.enc b] [] = impl_MeetI.t a b fun r => some ((cT2 cIv cBool).enc r, [])).trans (impl_MeetI.t_eq a b _))
def impl_MeetI.e : Entry Tryz.prog := entry2 cIv cIv (cT2 cIv cBool) 74 impl_MeetI impl_MeetI.gives

/-! ### impl.inRing -/
def impl_inRing.t {ρ : Type} (x : Iv) (K : Iv → Option ρ) : Option ρ := K ((impl_MeetI x impl_ring).1)
theorem impl_inRing.t_eq {ρ : Type} (x : Iv) (K : Iv → Option ρ) : impl_inRing.t x K = K (impl_inRing x) := rfl
theorem impl_inRing.gives (x : Iv) : GivesV Tryz.prog 106 [cIv.enc x] (cIv.enc (impl_inRing x)) :=
  givesT hmix [impl_ring.e, impl_MeetI.e] 0 none Tryz.func106 rfl rfl ((by kernel_rfl : run1 Tryz.prog (tab [impl_ring.e, impl_MeetI.e]) 0 none noL Tryz.f106 [cIv.enc x] [] = impl_inRing.t x fun r => some (cIv.enc r, [])).trans (impl_inRing.t_eq x _))
def impl_inRing.e : Entry Tryz.prog := entry1 cIv cIv 106 impl_inRing impl_inRing.gives

/-! ### impl.CosSeries -/
def impl_CosSeries.t {ρ : Type} (x : Iv) (K : Iv → Option ρ) : Option ρ := bif (!(impl_InsideI x impl_ring)) then (K impl_Whole) else (K (impl_AddI (impl_series (impl_SqrI x) 1) impl_tiny))
theorem impl_CosSeries.t_eq {ρ : Type} (x : Iv) (K : Iv → Option ρ) : impl_CosSeries.t x K = K (impl_CosSeries x) := cq (fun h0 => rfl) (fun h0 => rfl)
theorem impl_CosSeries.gives (x : Iv) : GivesV Tryz.prog 108 [cIv.enc x] (cIv.enc (impl_CosSeries x)) :=
  givesT hmix [impl_ring.e, impl_InsideI.e, impl_Whole.e, impl_SqrI.e, impl_series.e, impl_tiny.e, impl_AddI.e] 0 none Tryz.func108 rfl rfl ((by kernel_rfl : run1 Tryz.prog (tab [impl_ring.e, impl_InsideI.e, impl_Whole.e, impl_SqrI.e, impl_series.e, impl_tiny.e, impl_AddI.e]) 0 none noL Tryz.f108 [cIv.enc x] [] = impl_CosSeries.t x fun r => some (cIv.enc r, [])).trans (impl_CosSeries.t_eq x _))
def impl_CosSeries.e : Entry Tryz.prog := entry1 cIv cIv 108 impl_CosSeries impl_CosSeries.gives

/-! ### impl.circleValue -/
def impl_circleValue.t {ρ : Type} (n : Int) (turns : Int) (K : Iv → Option ρ) : Option ρ := bif (!(impl_isAngle n)) then (K impl_ring) else (let t3 := (impl_QuarterOf n); let t6 := (impl_SubI (impl_at n) (impl_TurnI t3)); bif ((andI .i64 (w64 (t3 + turns)) 3) == 0) then (K (impl_inRing (impl_SinSeries t6))) else (bif ((andI .i64 (w64 (t3 + turns)) 3) == 1) then (K (impl_inRing (impl_CosSeries t6))) else (bif ((andI .i64 (w64 (t3 + turns)) 3) == 2) then (K (impl_inRing (impl_NegI (impl_SinSeries t6)))) else (K (impl_inRing (impl_NegI (impl_CosSeries t6)))))))
theorem impl_circleValue.t_eq {ρ : Type} (n : Int) (turns : Int) (K : Iv → Option ρ) : impl_circleValue.t n turns K = K (impl_circleValue n turns) := cq (fun h0 => rfl) (fun h0 => cq (fun h1 => rfl) (fun h1 => cq (fun h2 => rfl) (fun h2 => cq (fun h3 => rfl) (fun h3 => rfl))))
theorem impl_circleValue.gives (n : Int) (turns : Int) : GivesV Tryz.prog 97 [(cInt .i64).enc n, (cInt .i64).enc turns] (cIv.enc (impl_circleValue n turns)) :=
  givesT hmix [impl_isAngle.e, impl_ring.e, impl_QuarterOf.e, impl_at.e, impl_TurnI.e, impl_SubI.e, impl_SinSeries.e, impl_inRing.e, impl_CosSeries.e, impl_NegI.e] 0 none Tryz.func97 rfl rfl ((by kernel_rfl : run1 Tryz.prog (tab [impl_isAngle.e, impl_ring.e, impl_QuarterOf.e, impl_at.e, impl_TurnI.e, impl_SubI.e, impl_SinSeries.e, impl_inRing.e, impl_CosSeries.e, impl_NegI.e]) 0 none noL Tryz.f97 [(cInt .i64).enc n, (cInt .i64).enc turns] [] = impl_circleValue.t n turns fun r => some (cIv.enc r, [])).trans (impl_circleValue.t_eq n turns _))
def impl_circleValue.e : Entry Tryz.prog := entry2 (cInt .i64) (cInt .i64) cIv 97 impl_circleValue impl_circleValue.gives

/-! ### impl.HullI -/
def impl_HullI.t {ρ : Type} (a : Iv) (b : Iv) (K : Iv → Option ρ) : Option ρ := bif (!(impl_areBounded a b)) then (K impl_Whole) else (K (Iv.mk (mnI a.lo b.lo) (mxI a.hi b.hi)))
theorem impl_HullI.t_eq {ρ : Type} (a : Iv) (b : Iv) (K : Iv → Option ρ) : impl_HullI.t a b K = K (impl_HullI a b) := cq (fun h0 => rfl) (fun h0 => rfl)
theorem impl_HullI.gives (a : Iv) (b : Iv) : GivesV Tryz.prog 96 [cIv.enc a, cIv.enc b] (cIv.enc (impl_HullI a b)) :=
  givesT hmix [impl_areBounded.e, impl_Whole.e] 0 none Tryz.func96 rfl rfl ((by kernel_rfl : run1 Tryz.prog (tab [impl_areBounded.e, impl_Whole.e]) 0 none noL Tryz.f96 [cIv.enc a, cIv.enc b] [] = impl_HullI.t a b fun r => some (cIv.enc r, [])).trans (impl_HullI.t_eq a b _))
def impl_HullI.e : Entry Tryz.prog := entry2 cIv cIv cIv 96 impl_HullI impl_HullI.gives

/-! ### impl.OverlapI -/
def impl_OverlapI.t {ρ : Type} (a : Iv) (b : Iv) (K : Bool → Option ρ) : Option ρ := K ((impl_MeetI a b).2)
theorem impl_OverlapI.t_eq {ρ : Type} (a : Iv) (b : Iv) (K : Bool → Option ρ) : impl_OverlapI.t a b K = K (impl_OverlapI a b) := rfl
theorem impl_OverlapI.gives (a : Iv) (b : Iv) : GivesV Tryz.prog 51 [cIv.enc a, cIv.enc b] (cBool.enc (impl_OverlapI a b)) :=
  givesT hmix [impl_MeetI.e] 0 none Tryz.func51 rfl rfl ((by kernel_rfl : run1 Tryz.prog (tab [impl_MeetI.e]) 0 none noL Tryz.f51 [cIv.enc a, cIv.enc b] [] = impl_OverlapI.t a b fun r => some (cBool.enc r, [])).trans (impl_OverlapI.t_eq a b _))
def impl_OverlapI.e : Entry Tryz.prog := entry2 cIv cIv cBool 51 impl_OverlapI impl_OverlapI.gives

/-! ### impl.turnsIn -/
def impl_turnsIn.ls : Option (List Nat) := some [1, 3, 4, 1000000, 3002003]
def impl_turnsIn.env3 (x_lo : Int) (x_hi : Int) (v : Int × List Value) : Env := [(1, .pointer (some ⟨0, 0, none⟩)), (3, .slice (some ⟨1, 0, some 0⟩) 0 0), (4, .int .i64 v.1)]
def impl_turnsIn.heap3 (x_lo : Int) (x_hi : Int) (v : Int × List Value) : LH := [(#[.int .i64 x_lo, .int .i64 x_hi], 25), (lstC v.2 true (.int .i64 0), 2)]
def impl_turnsIn.L3 : LEntry := ⟨3, fun _ tm σ K => match tm, σ with
  | [(1, .pointer (some ⟨0, 0, none⟩)), (3, .slice (some ⟨1, 0, some 0⟩) 0 0), (4, .int .i64 q)], [(⟨[.int .i64 x_lo, .int .i64 x_hi]⟩, 25), (⟨[.tuple ⟨rs⟩, .bool true, .int .i64 0]⟩, 2)] => (match decide (-400 ≤ q ∧ q ≤ 400 ∧ (rs.length : Int) ≤ q + 400) with | true => K (.exit 0) (impl_turnsIn.env3 x_lo x_hi (impl_turnsIn.fin3 x_lo x_hi (q, rs))) (impl_turnsIn.heap3 x_lo x_hi (impl_turnsIn.fin3 x_lo x_hi (q, rs))) | false => none)
  | _, _ => none⟩
def impl_turnsIn.lt3 {ρ : Type} (x_lo : Int) (x_hi : Int) (q : Int) (rs : List Value) (K : Sum (Int × List Value) (Int × List Value) → Option ρ) : Option ρ := bif decide (q ≤ (w64 ((impl_QuarterOf x_hi) + 1))) then (bif (impl_OverlapI (impl_TurnI q) (Iv.mk x_lo x_hi)) then (bif decide ((rs.length + 1) * 8 ≤ 140737488355328) then (K (Sum.inl ((w64 (q + 1)), ((Value.int .i64 q) :: rs)))) else none) else (K (Sum.inl ((w64 (q + 1)), rs)))) else (K (Sum.inr (q, rs)))
theorem impl_turnsIn.lt3_eq {ρ : Type} (x_lo : Int) (x_hi : Int) (q : Int) (rs : List Value) (hpre : -400 ≤ q ∧ q ≤ 400 ∧ (rs.length : Int) ≤ q + 400) (K : Sum (Int × List Value) (Int × List Value) → Option ρ) : impl_turnsIn.lt3 x_lo x_hi q rs K = K (impl_turnsIn.rnd3 x_lo x_hi q rs) := cq (fun h0 => cq (fun h1 => cqT (by exact pd_turns hpre) (fun h2 => rfl)) (fun h1 => rfl)) (fun h0 => rfl)
theorem impl_turnsIn.step3 (x_lo : Int) (x_hi : Int) (q : Int) (rs : List Value) (k : Nat) (R : Type) (K : LX → Env → LH → Option R) : loopN Tryz.prog 0 impl_turnsIn.ls (k + 1) (exec Tryz.prog (tab (P := Tryz.prog) [impl_QuarterOf.e, impl_TurnI.e, impl_OverlapI.e]) 0 26 0 impl_turnsIn.ls (lam [impl_turnsIn.L3]) (cOf Tryz.f98 0)) (impl_turnsIn.env3 x_lo x_hi (q, rs)) (impl_turnsIn.heap3 x_lo x_hi (q, rs)) K = impl_turnsIn.lt3 x_lo x_hi q rs (sumK (fun v => loopN Tryz.prog 0 impl_turnsIn.ls k (exec Tryz.prog (tab (P := Tryz.prog) [impl_QuarterOf.e, impl_TurnI.e, impl_OverlapI.e]) 0 26 0 impl_turnsIn.ls (lam [impl_turnsIn.L3]) (cOf Tryz.f98 0)) (impl_turnsIn.env3 x_lo x_hi v) (impl_turnsIn.heap3 x_lo x_hi v) K) (fun v => K (.exit 0) (impl_turnsIn.env3 x_lo x_hi v) (impl_turnsIn.heap3 x_lo x_hi v))) := by kernel_rfl
theorem impl_turnsIn.dec3 (x_lo : Int) (x_hi : Int) (v : Int × List Value) (hv : -400 ≤ v.1 ∧ v.1 ≤ 400 ∧ (v.2.length : Int) ≤ v.1 + 400) (v' : Int × List Value) (hr : impl_turnsIn.rnd3 x_lo x_hi v.1 v.2 = Sum.inl v') : (-400 ≤ v'.1 ∧ v'.1 ≤ 400 ∧ (v'.2.length : Int) ≤ v'.1 + 400) ∧ (401 - v'.1).toNat < (401 - v.1).toNat := by
  exact dec_turns hv hr
theorem impl_turnsIn.to3 : impl_turnsIn.L3.Ok Tryz.prog (tab (P := Tryz.prog) [impl_QuarterOf.e, impl_TurnI.e, impl_OverlapI.e]) 0 26 0 impl_turnsIn.ls (lam [impl_turnsIn.L3]) (cOf Tryz.f98 0) := by
  intro R tm σ K r h
  simp only [impl_turnsIn.L3] at h
  split at h
  case h_2 => simp at h
  split at h
  case h_2 => simp at h
  rename_i q x_lo x_hi rs _ hc
  exact ⟨_, _, _, h, loop_to (x := 0) (rnd := (fun v : Int × List Value => impl_turnsIn.rnd3 x_lo x_hi v.1 v.2)) (env := fun v : Int × List Value => impl_turnsIn.env3 x_lo x_hi v) (heap := fun v : Int × List Value => impl_turnsIn.heap3 x_lo x_hi v) (Inv := (fun v : Int × List Value => -400 ≤ v.1 ∧ v.1 ≤ 400 ∧ (v.2.length : Int) ≤ v.1 + 400)) (μ := (fun v : Int × List Value => (401 - v.1).toNat)) (fun v hv k R K => (impl_turnsIn.step3 x_lo x_hi v.1 v.2 k R K).trans (impl_turnsIn.lt3_eq x_lo x_hi v.1 v.2 hv (sumK (fun v => loopN Tryz.prog 0 impl_turnsIn.ls k (exec Tryz.prog (tab (P := Tryz.prog) [impl_QuarterOf.e, impl_TurnI.e, impl_OverlapI.e]) 0 26 0 impl_turnsIn.ls (lam [impl_turnsIn.L3]) (cOf Tryz.f98 0)) (impl_turnsIn.env3 x_lo x_hi v) (impl_turnsIn.heap3 x_lo x_hi v) K) (fun v => K (.exit 0) (impl_turnsIn.env3 x_lo x_hi v) (impl_turnsIn.heap3 x_lo x_hi v))))) (fun v hv v' hr => impl_turnsIn.dec3 x_lo x_hi v hv v' hr) 802 (q, rs) (by have := of_decide_eq_true hc; first | exact this | (simp only []; exact this)) (by have := of_decide_eq_true hc; first | omega | (simp only []; omega))⟩
theorem impl_turnsIn.lok : ∀ c, Tryz.f98.body = some c → LamOk Tryz.prog (tab (P := Tryz.prog) [impl_QuarterOf.e, impl_TurnI.e, impl_OverlapI.e]) 0 Tryz.f98.ntmps 0 impl_turnsIn.ls (lam [impl_turnsIn.L3]) (loopsOf c) := by
  intro c hc
  have hb : loopsOf c = [(cOf Tryz.f98 0)] := by
    have h : loopsOf (Tryz.f98.body.getD .skip) = [(cOf Tryz.f98 0)] := by kernel_rfl
    rw [hc] at h
    exact h
  exact lam_ok1 hb impl_turnsIn.to3
def impl_turnsIn.t {ρ : Type} (x : Iv) (K : List Value → Option ρ) : Option ρ := let t1 := (impl_QuarterOf x.lo); bif decide (-400 ≤ (w64 (t1 - 1)) ∧ (w64 (t1 - 1)) ≤ 400 ∧ (([] : List Value).length : Int) ≤ (w64 (t1 - 1)) + 400) then (K ((impl_turnsIn.fin3 x.lo x.hi ((w64 (t1 - 1)), ([] : List Value))).2)) else none
theorem impl_turnsIn.t_eq {ρ : Type} (x : Iv) (K : List Value → Option ρ) : impl_turnsIn.t x K = K (impl_turnsIn x) := cqT (by exact pd_turns0 _) (fun h0 => rfl)
theorem impl_turnsIn.gives (x : Iv) : GivesR Tryz.prog 98 [cIv.enc x] (.int .i64 0) 2 (impl_turnsIn x) :=
  givesRL hmix [impl_QuarterOf.e, impl_TurnI.e, impl_OverlapI.e] 0 impl_turnsIn.ls (lam [impl_turnsIn.L3]) Tryz.func98 rfl rfl impl_turnsIn.lok ((by kernel_rfl : runK Tryz.prog (tab [impl_QuarterOf.e, impl_TurnI.e, impl_OverlapI.e]) 0 impl_turnsIn.ls (lam [impl_turnsIn.L3]) Tryz.f98 [cIv.enc x] 0 [] hdrBlk = impl_turnsIn.t x fun r => some (lstC r true (.int .i64 0), 2)).trans (impl_turnsIn.t_eq x _))
def impl_turnsIn.e : Entry Tryz.prog := entryR1 cIv (.int .i64 0) 2 98 impl_turnsIn impl_turnsIn.gives

/-! ### impl.circleHull -/
def impl_circleHull.ls : Option (List Nat) := some [1, 2, 4, 5, 22, 23, 24]
def impl_circleHull.env5 (rs : List Value) (x_lo : Int) (x_hi : Int) (turns_ : Int) (n : Int) (v : Int × Int × Int) : Env := [(1, .int .i64 turns_), (2, .pointer (some ⟨0, 0, none⟩)), (4, .pointer (some ⟨1, 0, none⟩)), (5, .pointer (some ⟨2, 0, none⟩)), (22, .slice (some ⟨3, 0, some 0⟩) 0 0), (23, .int .i64 n), (24, .int .i64 v.1)]
def impl_circleHull.heap5 (rs : List Value) (x_lo : Int) (x_hi : Int) (turns_ : Int) (n : Int) (v : Int × Int × Int) : LH := [(#[.int .i64 x_lo, .int .i64 x_hi], 25), (#[.int .i64 0, .int .i64 0], 25), (#[.int .i64 v.2.1, .int .i64 v.2.2], 25), (lstC rs true (.int .i64 0), 2)]
def impl_circleHull.L5 : LEntry := ⟨5, fun _ tm σ K => match tm, σ with
  | [(1, .int .i64 turns_), (2, .pointer (some ⟨0, 0, none⟩)), (4, .pointer (some ⟨1, 0, none⟩)), (5, .pointer (some ⟨2, 0, none⟩)), (22, .slice (some ⟨3, 0, some 0⟩) 0 0), (23, .int .i64 n), (24, .int .i64 i)], [(⟨[.int .i64 x_lo, .int .i64 x_hi]⟩, 25), (⟨[.int .i64 0, .int .i64 0]⟩, 25), (⟨[.int .i64 out_lo, .int .i64 out_hi]⟩, 25), (⟨[.tuple ⟨rs⟩, .bool true, .int .i64 0]⟩, 2)] => (match decide (n = (rs.length : Int) ∧ 0 ≤ i ∧ i ≤ n ∧ n ≤ 1000) with | true => K (.exit 0) (impl_circleHull.env5 rs x_lo x_hi turns_ n (impl_circleHull.fin5 rs x_lo x_hi turns_ n (i, out_lo, out_hi))) (impl_circleHull.heap5 rs x_lo x_hi turns_ n (impl_circleHull.fin5 rs x_lo x_hi turns_ n (i, out_lo, out_hi))) | false => none)
  | _, _ => none⟩
def impl_circleHull.lt5 {ρ : Type} (rs : List Value) (x_lo : Int) (x_hi : Int) (turns_ : Int) (n : Int) (i : Int) (out_lo : Int) (out_hi : Int) (K : Sum (Int × Int × Int) (Int × Int × Int) → Option ρ) : Option ρ := bif decide (i < n) then (bif decide (0 ≤ i ∧ i < (rs.length : Int)) then (bif decide ((Int.toNat i) < rs.length) then (bif ((andI .i64 (w64 ((atI rs true i) + turns_)) 3) == 1) then (let t8 := (impl_HullI (Iv.mk out_lo out_hi) (impl_Integer 1)); K (Sum.inl ((w64 (i + 1)), t8.lo, t8.hi))) else (bif ((andI .i64 (w64 ((atI rs true i) + turns_)) 3) == 3) then (let t10 := (impl_HullI (Iv.mk out_lo out_hi) (impl_Integer (-1))); K (Sum.inl ((w64 (i + 1)), t10.lo, t10.hi))) else (K (Sum.inl ((w64 (i + 1)), out_lo, out_hi))))) else none) else none) else (K (Sum.inr (i, out_lo, out_hi)))
theorem impl_circleHull.lt5_eq {ρ : Type} (rs : List Value) (x_lo : Int) (x_hi : Int) (turns_ : Int) (n : Int) (i : Int) (out_lo : Int) (out_hi : Int) (hpre : n = (rs.length : Int) ∧ 0 ≤ i ∧ i ≤ n ∧ n ≤ 1000) (K : Sum (Int × Int × Int) (Int × Int × Int) → Option ρ) : impl_circleHull.lt5 rs x_lo x_hi turns_ n i out_lo out_hi K = K (impl_circleHull.rnd5 rs x_lo x_hi turns_ n i out_lo out_hi) := cq (fun h0 => cqT (by first | exact u64_neg _ | (simp only [decide_eq_true_eq, decide_eq_false_iff_not] at *; omega) | (simp only [Bool.not_eq_eq_eq_not, Bool.not_false, inside_iff, l00In_iff, decide_eq_true_eq, decide_eq_false_iff_not, w64_def, u64_def] at *; omega)) (fun h1 => cqT (by first | exact u64_neg _ | (simp only [decide_eq_true_eq, decide_eq_false_iff_not] at *; omega) | (simp only [Bool.not_eq_eq_eq_not, Bool.not_false, inside_iff, l00In_iff, decide_eq_true_eq, decide_eq_false_iff_not, w64_def, u64_def] at *; omega)) (fun h2 => cq (fun h3 => rfl) (fun h3 => cq (fun h4 => rfl) (fun h4 => rfl))))) (fun h0 => rfl)
theorem impl_circleHull.step5 (rs : List Value) (x_lo : Int) (x_hi : Int) (turns_ : Int) (n : Int) (i : Int) (out_lo : Int) (out_hi : Int) (k : Nat) (R : Type) (K : LX → Env → LH → Option R) : loopN Tryz.prog 0 impl_circleHull.ls (k + 1) (exec Tryz.prog (tab (P := Tryz.prog) [impl_areAngles.e, impl_ring.e, impl_circleValue.e, impl_HullI.e, impl_turnsIn.e, impl_Integer.e]) 0 44 0 impl_circleHull.ls (lam [impl_circleHull.L5]) (cOf Tryz.f85 0)) (impl_circleHull.env5 rs x_lo x_hi turns_ n (i, out_lo, out_hi)) (impl_circleHull.heap5 rs x_lo x_hi turns_ n (i, out_lo, out_hi)) K = impl_circleHull.lt5 rs x_lo x_hi turns_ n i out_lo out_hi (sumK (fun v => loopN Tryz.prog 0 impl_circleHull.ls k (exec Tryz.prog (tab (P := Tryz.prog) [impl_areAngles.e, impl_ring.e, impl_circleValue.e, impl_HullI.e, impl_turnsIn.e, impl_Integer.e]) 0 44 0 impl_circleHull.ls (lam [impl_circleHull.L5]) (cOf Tryz.f85 0)) (impl_circleHull.env5 rs x_lo x_hi turns_ n v) (impl_circleHull.heap5 rs x_lo x_hi turns_ n v) K) (fun v => K (.exit 0) (impl_circleHull.env5 rs x_lo x_hi turns_ n v) (impl_circleHull.heap5 rs x_lo x_hi turns_ n v))) := by kernel_rfl
theorem impl_circleHull.dec5 (rs : List Value) (x_lo : Int) (x_hi : Int) (turns_ : Int) (n : Int) (v : Int × Int × Int) (hv : n = (rs.length : Int) ∧ 0 ≤ v.1 ∧ v.1 ≤ n ∧ n ≤ 1000) (v' : Int × Int × Int) (hr : impl_circleHull.rnd5 rs x_lo x_hi turns_ n v.1 v.2.1 v.2.2 = Sum.inl v') : (n = (rs.length : Int) ∧ 0 ≤ v'.1 ∧ v'.1 ≤ n ∧ n ≤ 1000) ∧ (n - v'.1).toNat < (n - v.1).toNat := by
  exact dec_hull hv hr
theorem impl_circleHull.to5 : impl_circleHull.L5.Ok Tryz.prog (tab (P := Tryz.prog) [impl_areAngles.e, impl_ring.e, impl_circleValue.e, impl_HullI.e, impl_turnsIn.e, impl_Integer.e]) 0 44 0 impl_circleHull.ls (lam [impl_circleHull.L5]) (cOf Tryz.f85 0) := by
  intro R tm σ K r h
  simp only [impl_circleHull.L5] at h
  split at h
  case h_2 => simp at h
  split at h
  case h_2 => simp at h
  rename_i turns_ n i x_lo x_hi out_lo out_hi rs _ hc
  exact ⟨_, _, _, h, loop_to (x := 0) (rnd := (fun v : Int × Int × Int => impl_circleHull.rnd5 rs x_lo x_hi turns_ n v.1 v.2.1 v.2.2)) (env := fun v : Int × Int × Int => impl_circleHull.env5 rs x_lo x_hi turns_ n v) (heap := fun v : Int × Int × Int => impl_circleHull.heap5 rs x_lo x_hi turns_ n v) (Inv := (fun v : Int × Int × Int => n = (rs.length : Int) ∧ 0 ≤ v.1 ∧ v.1 ≤ n ∧ n ≤ 1000)) (μ := (fun v : Int × Int × Int => (n - v.1).toNat)) (fun v hv k R K => (impl_circleHull.step5 rs x_lo x_hi turns_ n v.1 v.2.1 v.2.2 k R K).trans (impl_circleHull.lt5_eq rs x_lo x_hi turns_ n v.1 v.2.1 v.2.2 hv (sumK (fun v => loopN Tryz.prog 0 impl_circleHull.ls k (exec Tryz.prog (tab (P := Tryz.prog) [impl_areAngles.e, impl_ring.e, impl_circleValue.e, impl_HullI.e, impl_turnsIn.e, impl_Integer.e]) 0 44 0 impl_circleHull.ls (lam [impl_circleHull.L5]) (cOf Tryz.f85 0)) (impl_circleHull.env5 rs x_lo x_hi turns_ n v) (impl_circleHull.heap5 rs x_lo x_hi turns_ n v) K) (fun v => K (.exit 0) (impl_circleHull.env5 rs x_lo x_hi turns_ n v) (impl_circleHull.heap5 rs x_lo x_hi turns_ n v))))) (fun v hv v' hr => impl_circleHull.dec5 rs x_lo x_hi turns_ n v hv v' hr) 1001 (i, out_lo, out_hi) (by have := of_decide_eq_true hc; first | exact this | (simp only []; exact this)) (by have := of_decide_eq_true hc; first | omega | (simp only []; omega))⟩
theorem impl_circleHull.lok : ∀ c, Tryz.f85.body = some c → LamOk Tryz.prog (tab (P := Tryz.prog) [impl_areAngles.e, impl_ring.e, impl_circleValue.e, impl_HullI.e, impl_turnsIn.e, impl_Integer.e]) 0 Tryz.f85.ntmps 0 impl_circleHull.ls (lam [impl_circleHull.L5]) (loopsOf c) := by
  intro c hc
  have hb : loopsOf c = [(cOf Tryz.f85 0)] := by
    have h : loopsOf (Tryz.f85.body.getD .skip) = [(cOf Tryz.f85 0)] := by kernel_rfl
    rw [hc] at h
    exact h
  exact lam_ok1 hb impl_circleHull.to5
def impl_circleHull.t {ρ : Type} (x : Iv) (turns : Int) (K : Iv → Option ρ) : Option ρ := bif (!(impl_areAngles x)) then (K impl_ring) else (let t5 := (impl_HullI (impl_circleValue x.lo turns) (impl_circleValue x.hi turns)); let t6 := (impl_turnsIn x); bif decide ((t6.length : Int) = (t6.length : Int) ∧ 0 ≤ (0 : Int) ∧ (0 : Int) ≤ (t6.length : Int) ∧ (t6.length : Int) ≤ 1000) then (let t7 := (impl_circleHull.fin5 t6 x.lo x.hi turns ((t6.length : Int)) (0, t5.lo, t5.hi)); K (Iv.mk t7.2.1 t7.2.2)) else none)
theorem impl_circleHull.t_eq {ρ : Type} (x : Iv) (turns : Int) (K : Iv → Option ρ) : impl_circleHull.t x turns K = K (impl_circleHull x turns) := cq (fun h0 => rfl) (fun h0 => cqT (by exact pd_hull0 _) (fun h1 => rfl))
theorem impl_circleHull.gives (x : Iv) (turns : Int) : GivesV Tryz.prog 85 [cIv.enc x, (cInt .i64).enc turns] (cIv.enc (impl_circleHull x turns)) :=
  givesL hmix [impl_areAngles.e, impl_ring.e, impl_circleValue.e, impl_HullI.e, impl_turnsIn.e, impl_Integer.e] 0 impl_circleHull.ls (lam [impl_circleHull.L5]) Tryz.func85 rfl rfl impl_circleHull.lok ((by kernel_rfl : run1 Tryz.prog (tab [impl_areAngles.e, impl_ring.e, impl_circleValue.e, impl_HullI.e, impl_turnsIn.e, impl_Integer.e]) 0 impl_circleHull.ls (lam [impl_circleHull.L5]) Tryz.f85 [cIv.enc x, (cInt .i64).enc turns] [] = impl_circleHull.t x turns fun r => some (cIv.enc r, [])).trans (impl_circleHull.t_eq x turns _))
def impl_circleHull.e : Entry Tryz.prog := entry2 cIv (cInt .i64) cIv 85 impl_circleHull impl_circleHull.gives

/-! ### impl.CosI -/
def impl_CosI.t {ρ : Type} (x : Iv) (K : Iv → Option ρ) : Option ρ := K (impl_circleHull x 1)
theorem impl_CosI.t_eq {ρ : Type} (x : Iv) (K : Iv → Option ρ) : impl_CosI.t x K = K (impl_CosI x) := rfl
theorem impl_CosI.gives (x : Iv) : GivesV Tryz.prog 72 [cIv.enc x] (cIv.enc (impl_CosI x)) :=
  givesT hmix [impl_circleHull.e] 0 none Tryz.func72 rfl rfl ((by kernel_rfl : run1 Tryz.prog (tab [impl_circleHull.e]) 0 none noL Tryz.f72 [cIv.enc x] [] = impl_CosI.t x fun r => some (cIv.enc r, [])).trans (impl_CosI.t_eq x _))
def impl_CosI.e : Entry Tryz.prog := entry1 cIv cIv 72 impl_CosI impl_CosI.gives

/-! ### impl.SinI -/
def impl_SinI.t {ρ : Type} (x : Iv) (K : Iv → Option ρ) : Option ρ := K (impl_circleHull x 0)
theorem impl_SinI.t_eq {ρ : Type} (x : Iv) (K : Iv → Option ρ) : impl_SinI.t x K = K (impl_SinI x) := rfl
theorem impl_SinI.gives (x : Iv) : GivesV Tryz.prog 73 [cIv.enc x] (cIv.enc (impl_SinI x)) :=
  givesT hmix [impl_circleHull.e] 0 none Tryz.func73 rfl rfl ((by kernel_rfl : run1 Tryz.prog (tab [impl_circleHull.e]) 0 none noL Tryz.f73 [cIv.enc x] [] = impl_SinI.t x fun r => some (cIv.enc r, [])).trans (impl_SinI.t_eq x _))
def impl_SinI.e : Entry Tryz.prog := entry1 cIv cIv 73 impl_SinI impl_SinI.gives

/-! ### impl.turned -/
def impl_turned.t {ρ : Type} (x : Iv) (y : Iv) (angle : Iv) (K : (Iv × Iv) → Option ρ) : Option ρ := let t1 := (impl_CosI angle); let t2 := (impl_SinI angle); K ((impl_SubI (impl_MulI x t1) (impl_MulI y t2)), (impl_AddI (impl_MulI x t2) (impl_MulI y t1)))
theorem impl_turned.t_eq {ρ : Type} (x : Iv) (y : Iv) (angle : Iv) (K : (Iv × Iv) → Option ρ) : impl_turned.t x y angle K = K (impl_turned x y angle) := rfl
theorem impl_turned.gives (x : Iv) (y : Iv) (angle : Iv) : GivesV Tryz.prog 50 [cIv.enc x, cIv.enc y, cIv.enc angle] ((cT2 cIv cIv).enc (impl_turned x y angle)) :=
  givesT hmix [impl_CosI.e, impl_SinI.e, impl_MulI.e, impl_SubI.e, impl_AddI.e] 0 none Tryz.func50 rfl rfl ((by kernel_rfl : run1 Tryz.prog (tab [impl_CosI.e, impl_SinI.e, impl_MulI.e, impl_SubI.e, impl_AddI.e]) 0 none noL Tryz.f50 [cIv.enc x, cIv.enc y, cIv.enc angle] [] = impl_turned.t x y angle fun r => some ((cT2 cIv cIv).enc r, [])).trans (impl_turned.t_eq x y angle _))
def impl_turned.e : Entry Tryz.prog := entry3 cIv cIv cIv (cT2 cIv cIv) 50 impl_turned impl_turned.gives

/-! ### impl.TurnX -/
def impl_TurnX.t {ρ : Type} (a : V3) (angle : Iv) (K : V3 → Option ρ) : Option ρ := let t1 := (impl_turned a.y a.z angle); K (V3.mk a.x t1.1 t1.2)
theorem impl_TurnX.t_eq {ρ : Type} (a : V3) (angle : Iv) (K : V3 → Option ρ) : impl_TurnX.t a angle K = K (impl_TurnX a angle) := rfl
theorem impl_TurnX.gives (a : V3) (angle : Iv) : GivesV Tryz.prog 16 [cV3.enc a, cIv.enc angle] (cV3.enc (impl_TurnX a angle)) :=
  givesT hmix [impl_turned.e] 0 none Tryz.func16 rfl rfl ((by kernel_rfl : run1 Tryz.prog (tab [impl_turned.e]) 0 none noL Tryz.f16 [cV3.enc a, cIv.enc angle] [] = impl_TurnX.t a angle fun r => some (cV3.enc r, [])).trans (impl_TurnX.t_eq a angle _))
def impl_TurnX.e : Entry Tryz.prog := entry2 cV3 cIv cV3 16 impl_TurnX impl_TurnX.gives

/-! ### impl.TurnY -/
def impl_TurnY.t {ρ : Type} (a : V3) (angle : Iv) (K : V3 → Option ρ) : Option ρ := let t1 := (impl_turned a.z a.x angle); K (V3.mk t1.2 a.y t1.1)
theorem impl_TurnY.t_eq {ρ : Type} (a : V3) (angle : Iv) (K : V3 → Option ρ) : impl_TurnY.t a angle K = K (impl_TurnY a angle) := rfl
theorem impl_TurnY.gives (a : V3) (angle : Iv) : GivesV Tryz.prog 17 [cV3.enc a, cIv.enc angle] (cV3.enc (impl_TurnY a angle)) :=
  givesT hmix [impl_turned.e] 0 none Tryz.func17 rfl rfl ((by kernel_rfl : run1 Tryz.prog (tab [impl_turned.e]) 0 none noL Tryz.f17 [cV3.enc a, cIv.enc angle] [] = impl_TurnY.t a angle fun r => some (cV3.enc r, [])).trans (impl_TurnY.t_eq a angle _))
def impl_TurnY.e : Entry Tryz.prog := entry2 cV3 cIv cV3 17 impl_TurnY impl_TurnY.gives

/-! ### impl.TurnZ -/
def impl_TurnZ.t {ρ : Type} (a : V3) (angle : Iv) (K : V3 → Option ρ) : Option ρ := let t1 := (impl_turned a.x a.y angle); K (V3.mk t1.1 t1.2 a.z)
theorem impl_TurnZ.t_eq {ρ : Type} (a : V3) (angle : Iv) (K : V3 → Option ρ) : impl_TurnZ.t a angle K = K (impl_TurnZ a angle) := rfl
theorem impl_TurnZ.gives (a : V3) (angle : Iv) : GivesV Tryz.prog 18 [cV3.enc a, cIv.enc angle] (cV3.enc (impl_TurnZ a angle)) :=
  givesT hmix [impl_turned.e] 0 none Tryz.func18 rfl rfl ((by kernel_rfl : run1 Tryz.prog (tab [impl_turned.e]) 0 none noL Tryz.f18 [cV3.enc a, cIv.enc angle] [] = impl_TurnZ.t a angle fun r => some (cV3.enc r, [])).trans (impl_TurnZ.t_eq a angle _))
def impl_TurnZ.e : Entry Tryz.prog := entry2 cV3 cIv cV3 18 impl_TurnZ impl_TurnZ.gives

/-! ### spec.NegI -/
def spec_NegI.t {ρ : Type} (a : Iv) (K : Iv → Option ρ) : Option ρ := bif (!(spec_l04Ok a)) then (K spec_l04Whole) else (K (spec_l04Make (w64 (0 - a.hi)) (w64 (0 - a.lo))))
theorem spec_NegI.t_eq {ρ : Type} (a : Iv) (K : Iv → Option ρ) : spec_NegI.t a K = K (spec_NegI a) := cq (fun h0 => rfl) (fun h0 => rfl)
theorem spec_NegI.gives (a : Iv) : GivesV Tryz.prog 19 [cIv.enc a] (cIv.enc (spec_NegI a)) :=
  givesT hmix [spec_l04Ok.e, spec_l04Whole.e, spec_l04Make.e] 0 none Tryz.func19 rfl rfl ((by kernel_rfl : run1 Tryz.prog (tab [spec_l04Ok.e, spec_l04Whole.e, spec_l04Make.e]) 0 none noL Tryz.f19 [cIv.enc a] [] = spec_NegI.t a fun r => some (cIv.enc r, [])).trans (spec_NegI.t_eq a _))
def spec_NegI.e : Entry Tryz.prog := entry1 cIv cIv 19 spec_NegI spec_NegI.gives

/-! ### impl.OverlapV -/
def impl_OverlapV.t {ρ : Type} (a : V3) (b : V3) (K : Bool → Option ρ) : Option ρ := bif (impl_OverlapI a.x b.x) then (bif (impl_OverlapI a.y b.y) then (K (impl_OverlapI a.z b.z)) else (K false)) else (K false)
theorem impl_OverlapV.t_eq {ρ : Type} (a : V3) (b : V3) (K : Bool → Option ρ) : impl_OverlapV.t a b K = K (impl_OverlapV a b) := cq (fun h0 => cq (fun h1 => rfl) (fun h1 => rfl)) (fun h0 => rfl)
theorem impl_OverlapV.gives (a : V3) (b : V3) : GivesV Tryz.prog 20 [cV3.enc a, cV3.enc b] (cBool.enc (impl_OverlapV a b)) :=
  givesT hmix [impl_OverlapI.e] 0 none Tryz.func20 rfl rfl ((by kernel_rfl : run1 Tryz.prog (tab [impl_OverlapI.e]) 0 none noL Tryz.f20 [cV3.enc a, cV3.enc b] [] = impl_OverlapV.t a b fun r => some (cBool.enc r, [])).trans (impl_OverlapV.t_eq a b _))
def impl_OverlapV.e : Entry Tryz.prog := entry2 cV3 cV3 cBool 20 impl_OverlapV impl_OverlapV.gives

/-! ### impl.dividedV -/
def impl_dividedV.t {ρ : Type} (a : V3) (k : Iv) (K : V3 → Option ρ) : Option ρ := K (V3.mk (impl_DivI a.x k) (impl_DivI a.y k) (impl_DivI a.z k))
theorem impl_dividedV.t_eq {ρ : Type} (a : V3) (k : Iv) (K : V3 → Option ρ) : impl_dividedV.t a k K = K (impl_dividedV a k) := rfl
theorem impl_dividedV.gives (a : V3) (k : Iv) : GivesV Tryz.prog 52 [cV3.enc a, cIv.enc k] (cV3.enc (impl_dividedV a k)) :=
  givesT hmix [impl_DivI.e] 0 none Tryz.func52 rfl rfl ((by kernel_rfl : run1 Tryz.prog (tab [impl_DivI.e]) 0 none noL Tryz.f52 [cV3.enc a, cIv.enc k] [] = impl_dividedV.t a k fun r => some (cV3.enc r, [])).trans (impl_dividedV.t_eq a k _))
def impl_dividedV.e : Entry Tryz.prog := entry2 cV3 cIv cV3 52 impl_dividedV impl_dividedV.gives

/-! ### impl.UnitV -/
def impl_UnitV.t {ρ : Type} (a : V3) (K : V3 → Option ρ) : Option ρ := K (impl_dividedV a (impl_NormV a))
theorem impl_UnitV.t_eq {ρ : Type} (a : V3) (K : V3 → Option ρ) : impl_UnitV.t a K = K (impl_UnitV a) := rfl
theorem impl_UnitV.gives (a : V3) : GivesV Tryz.prog 21 [cV3.enc a] (cV3.enc (impl_UnitV a)) :=
  givesT hmix [impl_NormV.e, impl_dividedV.e] 0 none Tryz.func21 rfl rfl ((by kernel_rfl : run1 Tryz.prog (tab [impl_NormV.e, impl_dividedV.e]) 0 none noL Tryz.f21 [cV3.enc a] [] = impl_UnitV.t a fun r => some (cV3.enc r, [])).trans (impl_UnitV.t_eq a _))
def impl_UnitV.e : Entry Tryz.prog := entry1 cV3 cV3 21 impl_UnitV impl_UnitV.gives

/-! ### spec.Integer -/
def spec_Integer.t {ρ : Type} (n : Int) (K : Iv → Option ρ) : Option ρ := bif (!(spec_l00In n (-268435455) 268435455)) then (K spec_l04Whole) else (K (spec_l04Make (w64 (n * 4294967296)) (w64 (n * 4294967296))))
theorem spec_Integer.t_eq {ρ : Type} (n : Int) (K : Iv → Option ρ) : spec_Integer.t n K = K (spec_Integer n) := cq (fun h0 => rfl) (fun h0 => rfl)
theorem spec_Integer.gives (n : Int) : GivesV Tryz.prog 22 [(cInt .i64).enc n] (cIv.enc (spec_Integer n)) :=
  givesT hmix [spec_l00In.e, spec_l04Whole.e, spec_l04Make.e] 0 none Tryz.func22 rfl rfl ((by kernel_rfl : run1 Tryz.prog (tab [spec_l00In.e, spec_l04Whole.e, spec_l04Make.e]) 0 none noL Tryz.f22 [(cInt .i64).enc n] [] = spec_Integer.t n fun r => some (cIv.enc r, [])).trans (spec_Integer.t_eq n _))
def spec_Integer.e : Entry Tryz.prog := entry1 (cInt .i64) cIv 22 spec_Integer spec_Integer.gives

/-! ### impl.AddV -/
def impl_AddV.t {ρ : Type} (a : V3) (b : V3) (K : V3 → Option ρ) : Option ρ := K (V3.mk (impl_AddI a.x b.x) (impl_AddI a.y b.y) (impl_AddI a.z b.z))
theorem impl_AddV.t_eq {ρ : Type} (a : V3) (b : V3) (K : V3 → Option ρ) : impl_AddV.t a b K = K (impl_AddV a b) := rfl
theorem impl_AddV.gives (a : V3) (b : V3) : GivesV Tryz.prog 25 [cV3.enc a, cV3.enc b] (cV3.enc (impl_AddV a b)) :=
  givesT hmix [impl_AddI.e] 0 none Tryz.func25 rfl rfl ((by kernel_rfl : run1 Tryz.prog (tab [impl_AddI.e]) 0 none noL Tryz.f25 [cV3.enc a, cV3.enc b] [] = impl_AddV.t a b fun r => some (cV3.enc r, [])).trans (impl_AddV.t_eq a b _))
def impl_AddV.e : Entry Tryz.prog := entry2 cV3 cV3 cV3 25 impl_AddV impl_AddV.gives

/-! ### impl.SubV -/
def impl_SubV.t {ρ : Type} (a : V3) (b : V3) (K : V3 → Option ρ) : Option ρ := K (V3.mk (impl_SubI a.x b.x) (impl_SubI a.y b.y) (impl_SubI a.z b.z))
theorem impl_SubV.t_eq {ρ : Type} (a : V3) (b : V3) (K : V3 → Option ρ) : impl_SubV.t a b K = K (impl_SubV a b) := rfl
theorem impl_SubV.gives (a : V3) (b : V3) : GivesV Tryz.prog 24 [cV3.enc a, cV3.enc b] (cV3.enc (impl_SubV a b)) :=
  givesT hmix [impl_SubI.e] 0 none Tryz.func24 rfl rfl ((by kernel_rfl : run1 Tryz.prog (tab [impl_SubI.e]) 0 none noL Tryz.f24 [cV3.enc a, cV3.enc b] [] = impl_SubV.t a b fun r => some (cV3.enc r, [])).trans (impl_SubV.t_eq a b _))
def impl_SubV.e : Entry Tryz.prog := entry2 cV3 cV3 cV3 24 impl_SubV impl_SubV.gives

/-! ### spec.AddV -/
def spec_AddV.t {ρ : Type} (a : V3) (b : V3) (K : V3 → Option ρ) : Option ρ := K (V3.mk (spec_AddI a.x b.x) (spec_AddI a.y b.y) (spec_AddI a.z b.z))
theorem spec_AddV.t_eq {ρ : Type} (a : V3) (b : V3) (K : V3 → Option ρ) : spec_AddV.t a b K = K (spec_AddV a b) := rfl
theorem spec_AddV.gives (a : V3) (b : V3) : GivesV Tryz.prog 27 [cV3.enc a, cV3.enc b] (cV3.enc (spec_AddV a b)) :=
  givesT hmix [spec_AddI.e] 0 none Tryz.func27 rfl rfl ((by kernel_rfl : run1 Tryz.prog (tab [spec_AddI.e]) 0 none noL Tryz.f27 [cV3.enc a, cV3.enc b] [] = spec_AddV.t a b fun r => some (cV3.enc r, [])).trans (spec_AddV.t_eq a b _))
def spec_AddV.e : Entry Tryz.prog := entry2 cV3 cV3 cV3 27 spec_AddV spec_AddV.gives

/-! ### spec.SubI -/
def spec_SubI.t {ρ : Type} (a : Iv) (b : Iv) (K : Iv → Option ρ) : Option ρ := bif (!(spec_l04Ok a)) then (K spec_l04Whole) else (bif (!(spec_l04Ok b)) then (K spec_l04Whole) else (K (spec_l04Make (w64 (a.lo - b.hi)) (w64 (a.hi - b.lo)))))
theorem spec_SubI.t_eq {ρ : Type} (a : Iv) (b : Iv) (K : Iv → Option ρ) : spec_SubI.t a b K = K (spec_SubI a b) := cq (fun h0 => rfl) (fun h0 => cq (fun h1 => rfl) (fun h1 => rfl))
theorem spec_SubI.gives (a : Iv) (b : Iv) : GivesV Tryz.prog 54 [cIv.enc a, cIv.enc b] (cIv.enc (spec_SubI a b)) :=
  givesT hmix [spec_l04Ok.e, spec_l04Whole.e, spec_l04Make.e] 0 none Tryz.func54 rfl rfl ((by kernel_rfl : run1 Tryz.prog (tab [spec_l04Ok.e, spec_l04Whole.e, spec_l04Make.e]) 0 none noL Tryz.f54 [cIv.enc a, cIv.enc b] [] = spec_SubI.t a b fun r => some (cIv.enc r, [])).trans (spec_SubI.t_eq a b _))
def spec_SubI.e : Entry Tryz.prog := entry2 cIv cIv cIv 54 spec_SubI spec_SubI.gives

/-! ### spec.SubV -/
def spec_SubV.t {ρ : Type} (a : V3) (b : V3) (K : V3 → Option ρ) : Option ρ := K (V3.mk (spec_SubI a.x b.x) (spec_SubI a.y b.y) (spec_SubI a.z b.z))
theorem spec_SubV.t_eq {ρ : Type} (a : V3) (b : V3) (K : V3 → Option ρ) : spec_SubV.t a b K = K (spec_SubV a b) := rfl
theorem spec_SubV.gives (a : V3) (b : V3) : GivesV Tryz.prog 26 [cV3.enc a, cV3.enc b] (cV3.enc (spec_SubV a b)) :=
  givesT hmix [spec_SubI.e] 0 none Tryz.func26 rfl rfl ((by kernel_rfl : run1 Tryz.prog (tab [spec_SubI.e]) 0 none noL Tryz.f26 [cV3.enc a, cV3.enc b] [] = spec_SubV.t a b fun r => some (cV3.enc r, [])).trans (spec_SubV.t_eq a b _))
def spec_SubV.e : Entry Tryz.prog := entry2 cV3 cV3 cV3 26 spec_SubV spec_SubV.gives

/-! ### spec.SameVec -/
def spec_SameVec.t {ρ : Type} (a : V3) (b : V3) (K : Bool → Option ρ) : Option ρ := K (((a.x.lo == b.x.lo) && (a.x.hi == b.x.hi)) && (((a.y.lo == b.y.lo) && (a.y.hi == b.y.hi)) && ((a.z.lo == b.z.lo) && (a.z.hi == b.z.hi))))
theorem spec_SameVec.t_eq {ρ : Type} (a : V3) (b : V3) (K : Bool → Option ρ) : spec_SameVec.t a b K = K (spec_SameVec a b) := rfl
theorem spec_SameVec.gives (a : V3) (b : V3) : GivesV Tryz.prog 23 [cV3.enc a, cV3.enc b] (cBool.enc (spec_SameVec a b)) :=
  givesT hmix [] 0 none Tryz.func23 rfl rfl ((by kernel_rfl : run1 Tryz.prog (tab []) 0 none noL Tryz.f23 [cV3.enc a, cV3.enc b] [] = spec_SameVec.t a b fun r => some (cBool.enc r, [])).trans (spec_SameVec.t_eq a b _))
def spec_SameVec.e : Entry Tryz.prog := entry2 cV3 cV3 cBool 23 spec_SameVec spec_SameVec.gives

/-! ### laws.FnVectors -/
def laws_FnVectors.t {ρ : Type} (d : List Value) (i : List Value) (K : Bool → Option ρ) : Option ρ := bif (laws_d8Long d i) then (K true) else (bif okS d 0 then (let t2 := (spec_E8Vec d); bif okS i 0 then (let t3 := (spec_E8Vec i); let t4 := (impl_CrossV t2 t3); bif (!(spec_HasI (impl_DotV t2 t4) 0)) then (K false) else (bif (!(spec_HasI (impl_DotV t3 t4) 0)) then (K false) else (bif (!(spec_OverlapI (spec_AddI (spec_SqrI (impl_NormV t4)) (spec_SqrI (impl_DotV t2 t3))) (spec_MulI (spec_SqrI (impl_NormV t2)) (spec_SqrI (impl_NormV t3))))) then (K false) else (bif (decide (0 ≤ 34359738368 ∧ 34359738368 ≤ 1000000000000) && okS i 0) then (let t21 := (laws_d8Fix (spec_E8Fix i 34359738368)); let t22 := (impl_NormV t2); bif (!(spec_OverlapI (impl_NormV (impl_TurnX t2 t21)) t22)) then (K false) else (bif (!(spec_OverlapI (impl_NormV (impl_TurnY t2 t21)) t22)) then (K false) else (bif (!(spec_OverlapI (impl_NormV (impl_TurnZ t2 t21)) t22)) then (K false) else (bif (impl_OverlapV (impl_TurnZ (impl_TurnZ t2 t21) (spec_NegI t21)) t2) then (bif (spec_OverlapI (impl_NormV (impl_UnitV t2)) (spec_Integer 1)) then (K (spec_SameVec (impl_SubV (impl_AddV t2 t3) t3) (spec_SubV (spec_AddV t2 t3) t3))) else (K false)) else (K false))))) else none)))) else none) else none)
theorem laws_FnVectors.t_eq {ρ : Type} (d : List Value) (i : List Value) (hpre : ((bytesOk d && bytesOk i)) = true) (K : Bool → Option ρ) : laws_FnVectors.t d i K = K (laws_FnVectors d i) := cq (fun h0 => rfl) (fun h0 => cqT (by first | exact pd_ok1 hpre h0 | exact pd_ok2 hpre h0) (fun h1 => cqT (by first | exact pd_ok1 hpre h0 | exact pd_ok2 hpre h0) (fun h2 => cq (fun h3 => rfl) (fun h3 => cq (fun h4 => rfl) (fun h4 => cq (fun h5 => rfl) (fun h5 => cqT (by first | exact pd_ok1 hpre h0 | exact pd_ok2 hpre h0) (fun h6 => cq (fun h7 => rfl) (fun h7 => cq (fun h8 => rfl) (fun h8 => cq (fun h9 => rfl) (fun h9 => cq (fun h10 => cq (fun h11 => rfl) (fun h11 => rfl)) (fun h10 => rfl)))))))))))
theorem laws_FnVectors.gives (d : List Value) (i : List Value) (hpre : ((bytesOk d && bytesOk i)) = true) : GivesA Tryz.prog 3 [(aL (.int .u8 0) 5).enc d, (aL (.int .u8 0) 5).enc i] (cBool.enc (laws_FnVectors d i)) :=
  givesA_L hmix [laws_d8Long.e, spec_E8Vec.e, impl_CrossV.e, impl_DotV.e, spec_HasI.e, impl_NormV.e, spec_SqrI.e, spec_AddI.e, spec_MulI.e, spec_OverlapI.e, spec_E8Fix.e, laws_d8Fix.e, impl_TurnX.e, impl_TurnY.e, impl_TurnZ.e, spec_NegI.e, impl_OverlapV.e, impl_UnitV.e, spec_Integer.e, impl_AddV.e, impl_SubV.e, spec_AddV.e, spec_SubV.e, spec_SameVec.e] 0 none noL Tryz.func3 rfl (fun _ _ => noL_ok) ((by kernel_rfl : run1 Tryz.prog (tab [laws_d8Long.e, spec_E8Vec.e, impl_CrossV.e, impl_DotV.e, spec_HasI.e, impl_NormV.e, spec_SqrI.e, spec_AddI.e, spec_MulI.e, spec_OverlapI.e, spec_E8Fix.e, laws_d8Fix.e, impl_TurnX.e, impl_TurnY.e, impl_TurnZ.e, spec_NegI.e, impl_OverlapV.e, impl_UnitV.e, spec_Integer.e, impl_AddV.e, impl_SubV.e, spec_AddV.e, spec_SubV.e, spec_SameVec.e]) 0 none noL Tryz.f3 (argVals 0 [(aL (.int .u8 0) 5).enc d, (aL (.int .u8 0) 5).enc i]) (argBlocks [(aL (.int .u8 0) 5).enc d, (aL (.int .u8 0) 5).enc i]) = laws_FnVectors.t d i fun r => some (cBool.enc r, argBlocks [(aL (.int .u8 0) 5).enc d, (aL (.int .u8 0) 5).enc i])).trans (laws_FnVectors.t_eq d i hpre _))
def laws_FnVectors.e : Entry Tryz.prog := entryA2 (aL (.int .u8 0) 5) (aL (.int .u8 0) 5) cBool 3 laws_FnVectors (fun d i => (bytesOk d && bytesOk i)) (fun d i h => laws_FnVectors.gives d i h)

end Go.Proofs.YtogpbandlpjccaaGreat
