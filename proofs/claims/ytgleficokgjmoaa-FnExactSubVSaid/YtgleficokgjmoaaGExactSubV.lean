/- The machine walks the functions that FnExactSubV reaches as the plain functions say. -/
import Derived.Test.YtgleficokgjmoaaProg
import Derived.Test.YtgleficokgjmoaaP2
set_option linter.unusedVariables false
set_option linter.unusedSimpArgs false
set_option maxRecDepth 100000
namespace Go.Proofs.Ytgleficokgjmoaa
open Go Go.RX Go.G880 Go.Proofs
theorem hmix : Try.prog.follows .mixedOrders = true := by kernel_rfl
/-! ### laws.toInterval -/
def laws_toInterval.t {ρ : Type} (a : Iv) (K : Iv → Option ρ) : Option ρ := K a
theorem laws_toInterval.t_eq {ρ : Type} (a : Iv) (K : Iv → Option ρ) : laws_toInterval.t a K = K (laws_toInterval a) := rfl
theorem laws_toInterval.gives (a : Iv) : GivesV Try.prog 39 [cIv.enc a] (cIv.enc (laws_toInterval a)) :=
  givesT hmix [] 0 none Try.func39 rfl rfl ((by kernel_rfl : run1 Try.prog (tab []) 0 none noL Try.f39 [cIv.enc a] [] = laws_toInterval.t a fun r => some (cIv.enc r, [])).trans (laws_toInterval.t_eq a _))
def laws_toInterval.e : Entry Try.prog := entry1 cIv cIv 39 laws_toInterval laws_toInterval.gives

/-! ### laws.toVec -/
def laws_toVec.t {ρ : Type} (a : V3) (K : V3 → Option ρ) : Option ρ := K (V3.mk (laws_toInterval a.x) (laws_toInterval a.y) (laws_toInterval a.z))
theorem laws_toVec.t_eq {ρ : Type} (a : V3) (K : V3 → Option ρ) : laws_toVec.t a K = K (laws_toVec a) := rfl
theorem laws_toVec.gives (a : V3) : GivesV Try.prog 22 [cV3.enc a] (cV3.enc (laws_toVec a)) :=
  givesT hmix [laws_toInterval.e] 0 none Try.func22 rfl rfl ((by kernel_rfl : run1 Try.prog (tab [laws_toInterval.e]) 0 none noL Try.f22 [cV3.enc a] [] = laws_toVec.t a fun r => some (cV3.enc r, [])).trans (laws_toVec.t_eq a _))
def laws_toVec.e : Entry Try.prog := entry1 cV3 cV3 22 laws_toVec laws_toVec.gives

/-! ### spec.l04Ok -/
def spec_l04Ok.t {ρ : Type} (a : Iv) (K : Bool → Option ρ) : Option ρ := bif decide ((-1152921504606846976) < a.lo) then (bif decide (a.lo ≤ a.hi) then (K (decide (a.hi < 1152921504606846976))) else (K false)) else (K false)
theorem spec_l04Ok.t_eq {ρ : Type} (a : Iv) (K : Bool → Option ρ) : spec_l04Ok.t a K = K (spec_l04Ok a) := cq (fun h0 => cq (fun h1 => rfl) (fun h1 => rfl)) (fun h0 => rfl)
theorem spec_l04Ok.gives (a : Iv) : GivesV Try.prog 48 [cIv.enc a] (cBool.enc (spec_l04Ok a)) :=
  givesT hmix [] 0 none Try.func48 rfl rfl ((by kernel_rfl : run1 Try.prog (tab []) 0 none noL Try.f48 [cIv.enc a] [] = spec_l04Ok.t a fun r => some (cBool.enc r, [])).trans (spec_l04Ok.t_eq a _))
def spec_l04Ok.e : Entry Try.prog := entry1 cIv cBool 48 spec_l04Ok spec_l04Ok.gives

/-! ### spec.l04Whole -/
def spec_l04Whole.t {ρ : Type} (K : Iv → Option ρ) : Option ρ := K (Iv.mk (-1152921504606846976) 1152921504606846976)
theorem spec_l04Whole.t_eq {ρ : Type} (K : Iv → Option ρ) : spec_l04Whole.t K = K spec_l04Whole := rfl
theorem spec_l04Whole.gives : GivesV Try.prog 49 [] (cIv.enc spec_l04Whole) :=
  givesT hmix [] 0 none Try.func49 rfl rfl ((by kernel_rfl : run1 Try.prog (tab []) 0 none noL Try.f49 [] [] = spec_l04Whole.t fun r => some (cIv.enc r, [])).trans (spec_l04Whole.t_eq _))
def spec_l04Whole.e : Entry Try.prog := entry0 cIv 49 spec_l04Whole spec_l04Whole.gives

/-! ### spec.l04Make -/
def spec_l04Make.t {ρ : Type} (lo_0 : Int) (hi_1 : Int) (K : Iv → Option ρ) : Option ρ := bif (!(spec_l04Ok (Iv.mk lo_0 hi_1))) then (K spec_l04Whole) else (K (Iv.mk lo_0 hi_1))
theorem spec_l04Make.t_eq {ρ : Type} (lo_0 : Int) (hi_1 : Int) (K : Iv → Option ρ) : spec_l04Make.t lo_0 hi_1 K = K (spec_l04Make lo_0 hi_1) := cq (fun h0 => rfl) (fun h0 => rfl)
theorem spec_l04Make.gives (lo_0 : Int) (hi_1 : Int) : GivesV Try.prog 50 [(cInt .i64).enc lo_0, (cInt .i64).enc hi_1] (cIv.enc (spec_l04Make lo_0 hi_1)) :=
  givesT hmix [spec_l04Ok.e, spec_l04Whole.e] 0 none Try.func50 rfl rfl ((by kernel_rfl : run1 Try.prog (tab [spec_l04Ok.e, spec_l04Whole.e]) 0 none noL Try.f50 [(cInt .i64).enc lo_0, (cInt .i64).enc hi_1] [] = spec_l04Make.t lo_0 hi_1 fun r => some (cIv.enc r, [])).trans (spec_l04Make.t_eq lo_0 hi_1 _))
def spec_l04Make.e : Entry Try.prog := entry2 (cInt .i64) (cInt .i64) cIv 50 spec_l04Make spec_l04Make.gives

/-! ### impl.ValidInterval -/
def impl_ValidInterval.t {ρ : Type} (i : Iv) (K : Bool → Option ρ) : Option ρ := bif decide ((-1152921504606846976) < i.lo) then (bif decide (i.lo ≤ i.hi) then (K (decide (i.hi < 1152921504606846976))) else (K false)) else (K false)
theorem impl_ValidInterval.t_eq {ρ : Type} (i : Iv) (K : Bool → Option ρ) : impl_ValidInterval.t i K = K (impl_ValidInterval i) := cq (fun h0 => cq (fun h1 => rfl) (fun h1 => rfl)) (fun h0 => rfl)
theorem impl_ValidInterval.gives (i : Iv) : GivesV Try.prog 58 [cIv.enc i] (cBool.enc (impl_ValidInterval i)) :=
  givesT hmix [] 0 none Try.func58 rfl rfl ((by kernel_rfl : run1 Try.prog (tab []) 0 none noL Try.f58 [cIv.enc i] [] = impl_ValidInterval.t i fun r => some (cBool.enc r, [])).trans (impl_ValidInterval.t_eq i _))
def impl_ValidInterval.e : Entry Try.prog := entry1 cIv cBool 58 impl_ValidInterval impl_ValidInterval.gives

/-! ### impl.areBounded -/
def impl_areBounded.t {ρ : Type} (a : Iv) (b : Iv) (K : Bool → Option ρ) : Option ρ := bif (impl_ValidInterval a) then (K (impl_ValidInterval b)) else (K false)
theorem impl_areBounded.t_eq {ρ : Type} (a : Iv) (b : Iv) (K : Bool → Option ρ) : impl_areBounded.t a b K = K (impl_areBounded a b) := cq (fun h0 => rfl) (fun h0 => rfl)
theorem impl_areBounded.gives (a : Iv) (b : Iv) : GivesV Try.prog 51 [cIv.enc a, cIv.enc b] (cBool.enc (impl_areBounded a b)) :=
  givesT hmix [impl_ValidInterval.e] 0 none Try.func51 rfl rfl ((by kernel_rfl : run1 Try.prog (tab [impl_ValidInterval.e]) 0 none noL Try.f51 [cIv.enc a, cIv.enc b] [] = impl_areBounded.t a b fun r => some (cBool.enc r, [])).trans (impl_areBounded.t_eq a b _))
def impl_areBounded.e : Entry Try.prog := entry2 cIv cIv cBool 51 impl_areBounded impl_areBounded.gives

/-! ### impl.Whole -/
def impl_Whole.t {ρ : Type} (K : Iv → Option ρ) : Option ρ := K (Iv.mk (-1152921504606846976) 1152921504606846976)
theorem impl_Whole.t_eq {ρ : Type} (K : Iv → Option ρ) : impl_Whole.t K = K impl_Whole := rfl
theorem impl_Whole.gives : GivesV Try.prog 52 [] (cIv.enc impl_Whole) :=
  givesT hmix [] 0 none Try.func52 rfl rfl ((by kernel_rfl : run1 Try.prog (tab []) 0 none noL Try.f52 [] [] = impl_Whole.t fun r => some (cIv.enc r, [])).trans (impl_Whole.t_eq _))
def impl_Whole.e : Entry Try.prog := entry0 cIv 52 impl_Whole impl_Whole.gives

/-! ### impl.bounded -/
def impl_bounded.t {ρ : Type} (lo_0 : Int) (hi_1 : Int) (ok : Bool) (K : Iv → Option ρ) : Option ρ := bif ok then (bif (impl_ValidInterval (Iv.mk lo_0 hi_1)) then (K (Iv.mk lo_0 hi_1)) else (K impl_Whole)) else (K impl_Whole)
theorem impl_bounded.t_eq {ρ : Type} (lo_0 : Int) (hi_1 : Int) (ok : Bool) (K : Iv → Option ρ) : impl_bounded.t lo_0 hi_1 ok K = K (impl_bounded lo_0 hi_1 ok) := cq (fun h0 => cq (fun h1 => rfl) (fun h1 => rfl)) (fun h0 => rfl)
theorem impl_bounded.gives (lo_0 : Int) (hi_1 : Int) (ok : Bool) : GivesV Try.prog 53 [(cInt .i64).enc lo_0, (cInt .i64).enc hi_1, cBool.enc ok] (cIv.enc (impl_bounded lo_0 hi_1 ok)) :=
  givesT hmix [impl_ValidInterval.e, impl_Whole.e] 0 none Try.func53 rfl rfl ((by kernel_rfl : run1 Try.prog (tab [impl_ValidInterval.e, impl_Whole.e]) 0 none noL Try.f53 [(cInt .i64).enc lo_0, (cInt .i64).enc hi_1, cBool.enc ok] [] = impl_bounded.t lo_0 hi_1 ok fun r => some (cIv.enc r, [])).trans (impl_bounded.t_eq lo_0 hi_1 ok _))
def impl_bounded.e : Entry Try.prog := entry3 (cInt .i64) (cInt .i64) cBool cIv 53 impl_bounded impl_bounded.gives

/-! ### impl.AddI -/
def impl_AddI.t {ρ : Type} (a : Iv) (b : Iv) (K : Iv → Option ρ) : Option ρ := bif (!(impl_areBounded a b)) then (K impl_Whole) else (K (impl_bounded (w64 (a.lo + b.lo)) (w64 (a.hi + b.hi)) true))
theorem impl_AddI.t_eq {ρ : Type} (a : Iv) (b : Iv) (K : Iv → Option ρ) : impl_AddI.t a b K = K (impl_AddI a b) := cq (fun h0 => rfl) (fun h0 => rfl)
theorem impl_AddI.gives (a : Iv) (b : Iv) : GivesV Try.prog 40 [cIv.enc a, cIv.enc b] (cIv.enc (impl_AddI a b)) :=
  givesT hmix [impl_areBounded.e, impl_Whole.e, impl_bounded.e] 0 none Try.func40 rfl rfl ((by kernel_rfl : run1 Try.prog (tab [impl_areBounded.e, impl_Whole.e, impl_bounded.e]) 0 none noL Try.f40 [cIv.enc a, cIv.enc b] [] = impl_AddI.t a b fun r => some (cIv.enc r, [])).trans (impl_AddI.t_eq a b _))
def impl_AddI.e : Entry Try.prog := entry2 cIv cIv cIv 40 impl_AddI impl_AddI.gives

/-! ### laws.eqInterval -/
def laws_eqInterval.t {ρ : Type} (a : Iv) (b : Iv) (K : Bool → Option ρ) : Option ρ := bif (a.lo != b.lo) then (K false) else (bif (a.hi != b.hi) then (K false) else (K true))
theorem laws_eqInterval.t_eq {ρ : Type} (a : Iv) (b : Iv) (K : Bool → Option ρ) : laws_eqInterval.t a b K = K (laws_eqInterval a b) := cq (fun h0 => rfl) (fun h0 => cq (fun h1 => rfl) (fun h1 => rfl))
theorem laws_eqInterval.gives (a : Iv) (b : Iv) : GivesV Try.prog 41 [cIv.enc a, cIv.enc b] (cBool.enc (laws_eqInterval a b)) :=
  givesT hmix [] 0 none Try.func41 rfl rfl ((by kernel_rfl : run1 Try.prog (tab []) 0 none noL Try.f41 [cIv.enc a, cIv.enc b] [] = laws_eqInterval.t a b fun r => some (cBool.enc r, [])).trans (laws_eqInterval.t_eq a b _))
def laws_eqInterval.e : Entry Try.prog := entry2 cIv cIv cBool 41 laws_eqInterval laws_eqInterval.gives

/-! ### laws.eqVec -/
def laws_eqVec.t {ρ : Type} (a : V3) (b : V3) (K : Bool → Option ρ) : Option ρ := bif (!(laws_eqInterval a.x b.x)) then (K false) else (bif (!(laws_eqInterval a.y b.y)) then (K false) else (bif (!(laws_eqInterval a.z b.z)) then (K false) else (K true)))
theorem laws_eqVec.t_eq {ρ : Type} (a : V3) (b : V3) (K : Bool → Option ρ) : laws_eqVec.t a b K = K (laws_eqVec a b) := cq (fun h0 => rfl) (fun h0 => cq (fun h1 => rfl) (fun h1 => cq (fun h2 => rfl) (fun h2 => rfl)))
theorem laws_eqVec.gives (a : V3) (b : V3) : GivesV Try.prog 24 [cV3.enc a, cV3.enc b] (cBool.enc (laws_eqVec a b)) :=
  givesT hmix [laws_eqInterval.e] 0 none Try.func24 rfl rfl ((by kernel_rfl : run1 Try.prog (tab [laws_eqInterval.e]) 0 none noL Try.f24 [cV3.enc a, cV3.enc b] [] = laws_eqVec.t a b fun r => some (cBool.enc r, [])).trans (laws_eqVec.t_eq a b _))
def laws_eqVec.e : Entry Try.prog := entry2 cV3 cV3 cBool 24 laws_eqVec laws_eqVec.gives

/-! ### impl.IsWhole -/
def impl_IsWhole.t {ρ : Type} (i : Iv) (K : Bool → Option ρ) : Option ρ := K (!(impl_ValidInterval i))
theorem impl_IsWhole.t_eq {ρ : Type} (i : Iv) (K : Bool → Option ρ) : impl_IsWhole.t i K = K (impl_IsWhole i) := rfl
theorem impl_IsWhole.gives (i : Iv) : GivesV Try.prog 61 [cIv.enc i] (cBool.enc (impl_IsWhole i)) :=
  givesT hmix [impl_ValidInterval.e] 0 none Try.func61 rfl rfl ((by kernel_rfl : run1 Try.prog (tab [impl_ValidInterval.e]) 0 none noL Try.f61 [cIv.enc i] [] = impl_IsWhole.t i fun r => some (cBool.enc r, [])).trans (impl_IsWhole.t_eq i _))
def impl_IsWhole.e : Entry Try.prog := entry1 cIv cBool 61 impl_IsWhole impl_IsWhole.gives

/-! ### spec.SubI -/
def spec_SubI.t {ρ : Type} (a : Iv) (b : Iv) (K : Iv → Option ρ) : Option ρ := bif (!(spec_l04Ok a)) then (K spec_l04Whole) else (bif (!(spec_l04Ok b)) then (K spec_l04Whole) else (K (spec_l04Make (w64 (a.lo - b.hi)) (w64 (a.hi - b.lo)))))
theorem spec_SubI.t_eq {ρ : Type} (a : Iv) (b : Iv) (K : Iv → Option ρ) : spec_SubI.t a b K = K (spec_SubI a b) := cq (fun h0 => rfl) (fun h0 => cq (fun h1 => rfl) (fun h1 => rfl))
theorem spec_SubI.gives (a : Iv) (b : Iv) : GivesV Try.prog 44 [cIv.enc a, cIv.enc b] (cIv.enc (spec_SubI a b)) :=
  givesT hmix [spec_l04Ok.e, spec_l04Whole.e, spec_l04Make.e] 0 none Try.func44 rfl rfl ((by kernel_rfl : run1 Try.prog (tab [spec_l04Ok.e, spec_l04Whole.e, spec_l04Make.e]) 0 none noL Try.f44 [cIv.enc a, cIv.enc b] [] = spec_SubI.t a b fun r => some (cIv.enc r, [])).trans (spec_SubI.t_eq a b _))
def spec_SubI.e : Entry Try.prog := entry2 cIv cIv cIv 44 spec_SubI spec_SubI.gives

/-! ### spec.SubV -/
def spec_SubV.t {ρ : Type} (a : V3) (b : V3) (K : V3 → Option ρ) : Option ρ := K (V3.mk (spec_SubI a.x b.x) (spec_SubI a.y b.y) (spec_SubI a.z b.z))
theorem spec_SubV.t_eq {ρ : Type} (a : V3) (b : V3) (K : V3 → Option ρ) : spec_SubV.t a b K = K (spec_SubV a b) := rfl
theorem spec_SubV.gives (a : V3) (b : V3) : GivesV Try.prog 27 [cV3.enc a, cV3.enc b] (cV3.enc (spec_SubV a b)) :=
  givesT hmix [spec_SubI.e] 0 none Try.func27 rfl rfl ((by kernel_rfl : run1 Try.prog (tab [spec_SubI.e]) 0 none noL Try.f27 [cV3.enc a, cV3.enc b] [] = spec_SubV.t a b fun r => some (cV3.enc r, [])).trans (spec_SubV.t_eq a b _))
def spec_SubV.e : Entry Try.prog := entry2 cV3 cV3 cV3 27 spec_SubV spec_SubV.gives

/-! ### impl.NegI -/
def impl_NegI.t {ρ : Type} (a : Iv) (K : Iv → Option ρ) : Option ρ := bif (impl_IsWhole a) then (K impl_Whole) else (K (Iv.mk (w64 (0 - a.hi)) (w64 (0 - a.lo))))
theorem impl_NegI.t_eq {ρ : Type} (a : Iv) (K : Iv → Option ρ) : impl_NegI.t a K = K (impl_NegI a) := cq (fun h0 => rfl) (fun h0 => rfl)
theorem impl_NegI.gives (a : Iv) : GivesV Try.prog 56 [cIv.enc a] (cIv.enc (impl_NegI a)) :=
  givesT hmix [impl_IsWhole.e, impl_Whole.e] 0 none Try.func56 rfl rfl ((by kernel_rfl : run1 Try.prog (tab [impl_IsWhole.e, impl_Whole.e]) 0 none noL Try.f56 [cIv.enc a] [] = impl_NegI.t a fun r => some (cIv.enc r, [])).trans (impl_NegI.t_eq a _))
def impl_NegI.e : Entry Try.prog := entry1 cIv cIv 56 impl_NegI impl_NegI.gives

/-! ### impl.SubI -/
def impl_SubI.t {ρ : Type} (a : Iv) (b : Iv) (K : Iv → Option ρ) : Option ρ := K (impl_AddI a (impl_NegI b))
theorem impl_SubI.t_eq {ρ : Type} (a : Iv) (b : Iv) (K : Iv → Option ρ) : impl_SubI.t a b K = K (impl_SubI a b) := rfl
theorem impl_SubI.gives (a : Iv) (b : Iv) : GivesV Try.prog 45 [cIv.enc a, cIv.enc b] (cIv.enc (impl_SubI a b)) :=
  givesT hmix [impl_NegI.e, impl_AddI.e] 0 none Try.func45 rfl rfl ((by kernel_rfl : run1 Try.prog (tab [impl_NegI.e, impl_AddI.e]) 0 none noL Try.f45 [cIv.enc a, cIv.enc b] [] = impl_SubI.t a b fun r => some (cIv.enc r, [])).trans (impl_SubI.t_eq a b _))
def impl_SubI.e : Entry Try.prog := entry2 cIv cIv cIv 45 impl_SubI impl_SubI.gives

/-! ### impl.SubV -/
def impl_SubV.t {ρ : Type} (a : V3) (b : V3) (K : V3 → Option ρ) : Option ρ := K (V3.mk (impl_SubI a.x b.x) (impl_SubI a.y b.y) (impl_SubI a.z b.z))
theorem impl_SubV.t_eq {ρ : Type} (a : V3) (b : V3) (K : V3 → Option ρ) : impl_SubV.t a b K = K (impl_SubV a b) := rfl
theorem impl_SubV.gives (a : V3) (b : V3) : GivesV Try.prog 28 [cV3.enc a, cV3.enc b] (cV3.enc (impl_SubV a b)) :=
  givesT hmix [impl_SubI.e] 0 none Try.func28 rfl rfl ((by kernel_rfl : run1 Try.prog (tab [impl_SubI.e]) 0 none noL Try.f28 [cV3.enc a, cV3.enc b] [] = impl_SubV.t a b fun r => some (cV3.enc r, [])).trans (impl_SubV.t_eq a b _))
def impl_SubV.e : Entry Try.prog := entry2 cV3 cV3 cV3 28 impl_SubV impl_SubV.gives

/-! ### laws.FnExactSubV -/
def laws_FnExactSubV.t {ρ : Type} (aA : V3) (aB : V3) (K : Bool → Option ρ) : Option ρ := bif (!(laws_eqVec (impl_SubV (laws_toVec aA) (laws_toVec aB)) (spec_SubV (laws_toVec aA) (laws_toVec aB)))) then (K false) else (K true)
theorem laws_FnExactSubV.t_eq {ρ : Type} (aA : V3) (aB : V3) (K : Bool → Option ρ) : laws_FnExactSubV.t aA aB K = K (laws_FnExactSubV aA aB) := cq (fun h0 => rfl) (fun h0 => rfl)
theorem laws_FnExactSubV.gives (aA : V3) (aB : V3) : GivesV Try.prog 9 [cV3.enc aA, cV3.enc aB] (cBool.enc (laws_FnExactSubV aA aB)) :=
  givesT hmix [laws_toVec.e, spec_SubV.e, impl_SubV.e, laws_eqVec.e] 0 none Try.func9 rfl rfl ((by kernel_rfl : run1 Try.prog (tab [laws_toVec.e, spec_SubV.e, impl_SubV.e, laws_eqVec.e]) 0 none noL Try.f9 [cV3.enc aA, cV3.enc aB] [] = laws_FnExactSubV.t aA aB fun r => some (cBool.enc r, [])).trans (laws_FnExactSubV.t_eq aA aB _))
def laws_FnExactSubV.e : Entry Try.prog := entry2 cV3 cV3 cBool 9 laws_FnExactSubV laws_FnExactSubV.gives

end Go.Proofs.Ytgleficokgjmoaa
