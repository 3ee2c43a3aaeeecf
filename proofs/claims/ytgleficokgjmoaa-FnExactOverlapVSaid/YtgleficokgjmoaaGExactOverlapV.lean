/- The machine walks the functions that FnExactOverlapV reaches as the plain functions say. -/
import Derived.Test.YtgleficokgjmoaaProg
import Derived.Test.YtgleficokgjmoaaP2
set_option linter.unusedVariables false
set_option linter.unusedSimpArgs false
set_option maxRecDepth 100000
namespace Go.Proofs.Ytgleficokgjmoaa
open Go Go.RX Go.G880 Go.Proofs
theorem hmix : Try.prog.follows .mixedOrders = true := by kernel_rfl
/-! ### laws.toInterval -/
def laws_toInterval.t {ρ : Type} (a : Iv) (K : Iv → Option ρ) : Option ρ := K a
theorem laws_toInterval.t_eq {ρ : Type} (a : Iv) (K : Iv → Option ρ) : laws_toInterval.t a K = K (laws_toInterval a) := rfl
theorem laws_toInterval.gives (a : Iv) : GivesV Try.prog 39 [cIv.enc a] (cIv.enc (laws_toInterval a)) :=
  givesT hmix [] 0 none Try.func39 rfl rfl ((by kernel_rfl : run1 Try.prog (tab []) 0 none noL Try.f39 [cIv.enc a] [] = laws_toInterval.t a fun r => some (cIv.enc r, [])).trans (laws_toInterval.t_eq a _))
def laws_toInterval.e : Entry Try.prog := entry1 cIv cIv 39 laws_toInterval laws_toInterval.gives

/-! ### laws.toVec -/
def laws_toVec.t {ρ : Type} (a : V3) (K : V3 → Option ρ) : Option ρ := K (V3.mk (laws_toInterval a.x) (laws_toInterval a.y) (laws_toInterval a.z))
theorem laws_toVec.t_eq {ρ : Type} (a : V3) (K : V3 → Option ρ) : laws_toVec.t a K = K (laws_toVec a) := rfl
theorem laws_toVec.gives (a : V3) : GivesV Try.prog 22 [cV3.enc a] (cV3.enc (laws_toVec a)) :=
  givesT hmix [laws_toInterval.e] 0 none Try.func22 rfl rfl ((by kernel_rfl : run1 Try.prog (tab [laws_toInterval.e]) 0 none noL Try.f22 [cV3.enc a] [] = laws_toVec.t a fun r => some (cV3.enc r, [])).trans (laws_toVec.t_eq a _))
def laws_toVec.e : Entry Try.prog := entry1 cV3 cV3 22 laws_toVec laws_toVec.gives

/-! ### spec.l04Ok -/
def spec_l04Ok.t {ρ : Type} (a : Iv) (K : Bool → Option ρ) : Option ρ := bif decide ((-1152921504606846976) < a.lo) then (bif decide (a.lo ≤ a.hi) then (K (decide (a.hi < 1152921504606846976))) else (K false)) else (K false)
theorem spec_l04Ok.t_eq {ρ : Type} (a : Iv) (K : Bool → Option ρ) : spec_l04Ok.t a K = K (spec_l04Ok a) := cq (fun h0 => cq (fun h1 => rfl) (fun h1 => rfl)) (fun h0 => rfl)
theorem spec_l04Ok.gives (a : Iv) : GivesV Try.prog 48 [cIv.enc a] (cBool.enc (spec_l04Ok a)) :=
  givesT hmix [] 0 none Try.func48 rfl rfl ((by kernel_rfl : run1 Try.prog (tab []) 0 none noL Try.f48 [cIv.enc a] [] = spec_l04Ok.t a fun r => some (cBool.enc r, [])).trans (spec_l04Ok.t_eq a _))
def spec_l04Ok.e : Entry Try.prog := entry1 cIv cBool 48 spec_l04Ok spec_l04Ok.gives

/-! ### spec.l04Whole -/
def spec_l04Whole.t {ρ : Type} (K : Iv → Option ρ) : Option ρ := K (Iv.mk (-1152921504606846976) 1152921504606846976)
theorem spec_l04Whole.t_eq {ρ : Type} (K : Iv → Option ρ) : spec_l04Whole.t K = K spec_l04Whole := rfl
theorem spec_l04Whole.gives : GivesV Try.prog 49 [] (cIv.enc spec_l04Whole) :=
  givesT hmix [] 0 none Try.func49 rfl rfl ((by kernel_rfl : run1 Try.prog (tab []) 0 none noL Try.f49 [] [] = spec_l04Whole.t fun r => some (cIv.enc r, [])).trans (spec_l04Whole.t_eq _))
def spec_l04Whole.e : Entry Try.prog := entry0 cIv 49 spec_l04Whole spec_l04Whole.gives

/-! ### impl.ValidInterval -/
def impl_ValidInterval.t {ρ : Type} (i : Iv) (K : Bool → Option ρ) : Option ρ := bif decide ((-1152921504606846976) < i.lo) then (bif decide (i.lo ≤ i.hi) then (K (decide (i.hi < 1152921504606846976))) else (K false)) else (K false)
theorem impl_ValidInterval.t_eq {ρ : Type} (i : Iv) (K : Bool → Option ρ) : impl_ValidInterval.t i K = K (impl_ValidInterval i) := cq (fun h0 => cq (fun h1 => rfl) (fun h1 => rfl)) (fun h0 => rfl)
theorem impl_ValidInterval.gives (i : Iv) : GivesV Try.prog 58 [cIv.enc i] (cBool.enc (impl_ValidInterval i)) :=
  givesT hmix [] 0 none Try.func58 rfl rfl ((by kernel_rfl : run1 Try.prog (tab []) 0 none noL Try.f58 [cIv.enc i] [] = impl_ValidInterval.t i fun r => some (cBool.enc r, [])).trans (impl_ValidInterval.t_eq i _))
def impl_ValidInterval.e : Entry Try.prog := entry1 cIv cBool 58 impl_ValidInterval impl_ValidInterval.gives

/-! ### impl.Whole -/
def impl_Whole.t {ρ : Type} (K : Iv → Option ρ) : Option ρ := K (Iv.mk (-1152921504606846976) 1152921504606846976)
theorem impl_Whole.t_eq {ρ : Type} (K : Iv → Option ρ) : impl_Whole.t K = K impl_Whole := rfl
theorem impl_Whole.gives : GivesV Try.prog 52 [] (cIv.enc impl_Whole) :=
  givesT hmix [] 0 none Try.func52 rfl rfl ((by kernel_rfl : run1 Try.prog (tab []) 0 none noL Try.f52 [] [] = impl_Whole.t fun r => some (cIv.enc r, [])).trans (impl_Whole.t_eq _))
def impl_Whole.e : Entry Try.prog := entry0 cIv 52 impl_Whole impl_Whole.gives

/-! ### spec.l00Max -/
def spec_l00Max.t {ρ : Type} (a : Int) (b : Int) (K : Int → Option ρ) : Option ρ := bif decide (a > b) then (K a) else (K b)
theorem spec_l00Max.t_eq {ρ : Type} (a : Int) (b : Int) (K : Int → Option ρ) : spec_l00Max.t a b K = K (spec_l00Max a b) := cq (fun h0 => rfl) (fun h0 => rfl)
theorem spec_l00Max.gives (a : Int) (b : Int) : GivesV Try.prog 59 [(cInt .i64).enc a, (cInt .i64).enc b] ((cInt .i64).enc (spec_l00Max a b)) :=
  givesT hmix [] 0 none Try.func59 rfl rfl ((by kernel_rfl : run1 Try.prog (tab []) 0 none noL Try.f59 [(cInt .i64).enc a, (cInt .i64).enc b] [] = spec_l00Max.t a b fun r => some ((cInt .i64).enc r, [])).trans (spec_l00Max.t_eq a b _))
def spec_l00Max.e : Entry Try.prog := entry2 (cInt .i64) (cInt .i64) (cInt .i64) 59 spec_l00Max spec_l00Max.gives

/-! ### spec.l00Min -/
def spec_l00Min.t {ρ : Type} (a : Int) (b : Int) (K : Int → Option ρ) : Option ρ := bif decide (a < b) then (K a) else (K b)
theorem spec_l00Min.t_eq {ρ : Type} (a : Int) (b : Int) (K : Int → Option ρ) : spec_l00Min.t a b K = K (spec_l00Min a b) := cq (fun h0 => rfl) (fun h0 => rfl)
theorem spec_l00Min.gives (a : Int) (b : Int) : GivesV Try.prog 60 [(cInt .i64).enc a, (cInt .i64).enc b] ((cInt .i64).enc (spec_l00Min a b)) :=
  givesT hmix [] 0 none Try.func60 rfl rfl ((by kernel_rfl : run1 Try.prog (tab []) 0 none noL Try.f60 [(cInt .i64).enc a, (cInt .i64).enc b] [] = spec_l00Min.t a b fun r => some ((cInt .i64).enc r, [])).trans (spec_l00Min.t_eq a b _))
def spec_l00Min.e : Entry Try.prog := entry2 (cInt .i64) (cInt .i64) (cInt .i64) 60 spec_l00Min spec_l00Min.gives

/-! ### spec.MeetI -/
def spec_MeetI.t {ρ : Type} (a : Iv) (b : Iv) (K : (Iv × Bool) → Option ρ) : Option ρ := bif (!(spec_l04Ok a)) then (bif (!(spec_l04Ok b)) then (K (spec_l04Whole, true)) else (bif (!(spec_l04Ok a)) then (K (b, true)) else (bif (!(spec_l04Ok b)) then (K (a, true)) else (let t6 := (spec_l00Max a.lo b.lo); let t7 := (spec_l00Min a.hi b.hi); bif decide (t6 > t7) then (K ((Iv.mk 0 0), false)) else (K ((Iv.mk t6 t7), true)))))) else (bif (!(spec_l04Ok a)) then (K (b, true)) else (bif (!(spec_l04Ok b)) then (K (a, true)) else (let t10 := (spec_l00Max a.lo b.lo); let t11 := (spec_l00Min a.hi b.hi); bif decide (t10 > t11) then (K ((Iv.mk 0 0), false)) else (K ((Iv.mk t10 t11), true)))))
theorem spec_MeetI.t_eq {ρ : Type} (a : Iv) (b : Iv) (K : (Iv × Bool) → Option ρ) : spec_MeetI.t a b K = K (spec_MeetI a b) := cq (fun h0 => cq (fun h1 => rfl) (fun h1 => cq (fun h2 => rfl) (fun h2 => cq (fun h3 => rfl) (fun h3 => cq (fun h4 => rfl) (fun h4 => rfl))))) (fun h0 => cq (fun h1 => rfl) (fun h1 => cq (fun h2 => rfl) (fun h2 => cq (fun h3 => rfl) (fun h3 => rfl))))
theorem spec_MeetI.gives (a : Iv) (b : Iv) : GivesV Try.prog 54 [cIv.enc a, cIv.enc b] ((cT2 cIv cBool).enc (spec_MeetI a b)) :=
  givesT hmix [spec_l04Ok.e, spec_l04Whole.e, spec_l00Max.e, spec_l00Min.e] 0 none Try.func54 rfl rfl ((by kernel_rfl : run1 Try.prog (tab [spec_l04Ok.e, spec_l04Whole.e, spec_l00Max.e, spec_l00Min.e]) 0 none noL Try.f54 [cIv.enc a, cIv.enc b] [] = spec_MeetI.t a b fun r => some ((cT2 cIv cBool).enc r, [])).trans (spec_MeetI.t_eq a b _))
def spec_MeetI.e : Entry Try.prog := entry2 cIv cIv (cT2 cIv cBool) 54 spec_MeetI spec_MeetI.gives

/-! ### spec.OverlapI -/
def spec_OverlapI.t {ρ : Type} (a : Iv) (b : Iv) (K : Bool → Option ρ) : Option ρ := K ((spec_MeetI a b).2)
theorem spec_OverlapI.t_eq {ρ : Type} (a : Iv) (b : Iv) (K : Bool → Option ρ) : spec_OverlapI.t a b K = K (spec_OverlapI a b) := rfl
theorem spec_OverlapI.gives (a : Iv) (b : Iv) : GivesV Try.prog 42 [cIv.enc a, cIv.enc b] (cBool.enc (spec_OverlapI a b)) :=
  givesT hmix [spec_MeetI.e] 0 none Try.func42 rfl rfl ((by kernel_rfl : run1 Try.prog (tab [spec_MeetI.e]) 0 none noL Try.f42 [cIv.enc a, cIv.enc b] [] = spec_OverlapI.t a b fun r => some (cBool.enc r, [])).trans (spec_OverlapI.t_eq a b _))
def spec_OverlapI.e : Entry Try.prog := entry2 cIv cIv cBool 42 spec_OverlapI spec_OverlapI.gives

/-! ### spec.OverlapV -/
def spec_OverlapV.t {ρ : Type} (a : V3) (b : V3) (K : Bool → Option ρ) : Option ρ := bif (spec_OverlapI a.x b.x) then (bif (spec_OverlapI a.y b.y) then (K (spec_OverlapI a.z b.z)) else (K false)) else (K false)
theorem spec_OverlapV.t_eq {ρ : Type} (a : V3) (b : V3) (K : Bool → Option ρ) : spec_OverlapV.t a b K = K (spec_OverlapV a b) := cq (fun h0 => cq (fun h1 => rfl) (fun h1 => rfl)) (fun h0 => rfl)
theorem spec_OverlapV.gives (a : V3) (b : V3) : GivesV Try.prog 25 [cV3.enc a, cV3.enc b] (cBool.enc (spec_OverlapV a b)) :=
  givesT hmix [spec_OverlapI.e] 0 none Try.func25 rfl rfl ((by kernel_rfl : run1 Try.prog (tab [spec_OverlapI.e]) 0 none noL Try.f25 [cV3.enc a, cV3.enc b] [] = spec_OverlapV.t a b fun r => some (cBool.enc r, [])).trans (spec_OverlapV.t_eq a b _))
def spec_OverlapV.e : Entry Try.prog := entry2 cV3 cV3 cBool 25 spec_OverlapV spec_OverlapV.gives

/-! ### impl.IsWhole -/
def impl_IsWhole.t {ρ : Type} (i : Iv) (K : Bool → Option ρ) : Option ρ := K (!(impl_ValidInterval i))
theorem impl_IsWhole.t_eq {ρ : Type} (i : Iv) (K : Bool → Option ρ) : impl_IsWhole.t i K = K (impl_IsWhole i) := rfl
theorem impl_IsWhole.gives (i : Iv) : GivesV Try.prog 61 [cIv.enc i] (cBool.enc (impl_IsWhole i)) :=
  givesT hmix [impl_ValidInterval.e] 0 none Try.func61 rfl rfl ((by kernel_rfl : run1 Try.prog (tab [impl_ValidInterval.e]) 0 none noL Try.f61 [cIv.enc i] [] = impl_IsWhole.t i fun r => some (cBool.enc r, [])).trans (impl_IsWhole.t_eq i _))
def impl_IsWhole.e : Entry Try.prog := entry1 cIv cBool 61 impl_IsWhole impl_IsWhole.gives

/-! ### impl.MeetI -/
def impl_MeetI.t {ρ : Type} (a : Iv) (b : Iv) (K : (Iv × Bool) → Option ρ) : Option ρ := bif (impl_IsWhole a) then (bif (impl_IsWhole b) then (K (impl_Whole, true)) else (bif (impl_IsWhole a) then (K (b, true)) else (bif (impl_IsWhole b) then (K (a, true)) else (bif decide ((mxI a.lo b.lo) > (mnI a.hi b.hi)) then (K ((Iv.mk 0 0), false)) else (K ((Iv.mk (mxI a.lo b.lo) (mnI a.hi b.hi)), true)))))) else (bif (impl_IsWhole a) then (K (b, true)) else (bif (impl_IsWhole b) then (K (a, true)) else (bif decide ((mxI a.lo b.lo) > (mnI a.hi b.hi)) then (K ((Iv.mk 0 0), false)) else (K ((Iv.mk (mxI a.lo b.lo) (mnI a.hi b.hi)), true)))))
theorem impl_MeetI.t_eq {ρ : Type} (a : Iv) (b : Iv) (K : (Iv × Bool) → Option ρ) : impl_MeetI.t a b K = K (impl_MeetI a b) := cq (fun h0 => cq (fun h1 => rfl) (fun h1 => cq (fun h2 => rfl) (fun h2 => cq (fun h3 => rfl) (fun h3 => cq (fun h4 => rfl) (fun h4 => rfl))))) (fun h0 => cq (fun h1 => rfl) (fun h1 => cq (fun h2 => rfl) (fun h2 => cq (fun h3 => rfl) (fun h3 => rfl))))
theorem impl_MeetI.gives (a : Iv) (b : Iv) : GivesV Try.prog 55 [cIv.enc a, cIv.enc b] ((cT2 cIv cBool).enc (impl_MeetI a b)) :=
  givesT hmix [impl_IsWhole.e, impl_Whole.e] 0 none Try.func55 rfl rfl ((by kernel_rfl : run1 Try.prog (tab [impl_IsWhole.e, impl_Whole.e]) 0 none noL Try.f55 [cIv.enc a, cIv.enc b] [] = impl_MeetI.t a b fun r => some ((cT2 cIv cBool).enc r, [])).trans (impl_MeetI.t_eq a b _))
def impl_MeetI.e : Entry Try.prog := entry2 cIv cIv (cT2 cIv cBool) 55 impl_MeetI impl_MeetI.gives

/-! ### impl.OverlapI -/
def impl_OverlapI.t {ρ : Type} (a : Iv) (b : Iv) (K : Bool → Option ρ) : Option ρ := K ((impl_MeetI a b).2)
theorem impl_OverlapI.t_eq {ρ : Type} (a : Iv) (b : Iv) (K : Bool → Option ρ) : impl_OverlapI.t a b K = K (impl_OverlapI a b) := rfl
theorem impl_OverlapI.gives (a : Iv) (b : Iv) : GivesV Try.prog 43 [cIv.enc a, cIv.enc b] (cBool.enc (impl_OverlapI a b)) :=
  givesT hmix [impl_MeetI.e] 0 none Try.func43 rfl rfl ((by kernel_rfl : run1 Try.prog (tab [impl_MeetI.e]) 0 none noL Try.f43 [cIv.enc a, cIv.enc b] [] = impl_OverlapI.t a b fun r => some (cBool.enc r, [])).trans (impl_OverlapI.t_eq a b _))
def impl_OverlapI.e : Entry Try.prog := entry2 cIv cIv cBool 43 impl_OverlapI impl_OverlapI.gives

/-! ### impl.OverlapV -/
def impl_OverlapV.t {ρ : Type} (a : V3) (b : V3) (K : Bool → Option ρ) : Option ρ := bif (impl_OverlapI a.x b.x) then (bif (impl_OverlapI a.y b.y) then (K (impl_OverlapI a.z b.z)) else (K false)) else (K false)
theorem impl_OverlapV.t_eq {ρ : Type} (a : V3) (b : V3) (K : Bool → Option ρ) : impl_OverlapV.t a b K = K (impl_OverlapV a b) := cq (fun h0 => cq (fun h1 => rfl) (fun h1 => rfl)) (fun h0 => rfl)
theorem impl_OverlapV.gives (a : V3) (b : V3) : GivesV Try.prog 26 [cV3.enc a, cV3.enc b] (cBool.enc (impl_OverlapV a b)) :=
  givesT hmix [impl_OverlapI.e] 0 none Try.func26 rfl rfl ((by kernel_rfl : run1 Try.prog (tab [impl_OverlapI.e]) 0 none noL Try.f26 [cV3.enc a, cV3.enc b] [] = impl_OverlapV.t a b fun r => some (cBool.enc r, [])).trans (impl_OverlapV.t_eq a b _))
def impl_OverlapV.e : Entry Try.prog := entry2 cV3 cV3 cBool 26 impl_OverlapV impl_OverlapV.gives

/-! ### laws.FnExactOverlapV -/
def laws_FnExactOverlapV.t {ρ : Type} (aA : V3) (aB : V3) (K : Bool → Option ρ) : Option ρ := bif (!((impl_OverlapV (laws_toVec aA) (laws_toVec aB)) == (spec_OverlapV (laws_toVec aA) (laws_toVec aB)))) then (K false) else (K true)
theorem laws_FnExactOverlapV.t_eq {ρ : Type} (aA : V3) (aB : V3) (K : Bool → Option ρ) : laws_FnExactOverlapV.t aA aB K = K (laws_FnExactOverlapV aA aB) := cq (fun h0 => rfl) (fun h0 => rfl)
theorem laws_FnExactOverlapV.gives (aA : V3) (aB : V3) : GivesV Try.prog 8 [cV3.enc aA, cV3.enc aB] (cBool.enc (laws_FnExactOverlapV aA aB)) :=
  givesT hmix [laws_toVec.e, spec_OverlapV.e, impl_OverlapV.e] 0 none Try.func8 rfl rfl ((by kernel_rfl : run1 Try.prog (tab [laws_toVec.e, spec_OverlapV.e, impl_OverlapV.e]) 0 none noL Try.f8 [cV3.enc aA, cV3.enc aB] [] = laws_FnExactOverlapV.t aA aB fun r => some (cBool.enc r, [])).trans (laws_FnExactOverlapV.t_eq aA aB _))
def laws_FnExactOverlapV.e : Entry Try.prog := entry2 cV3 cV3 cBool 8 laws_FnExactOverlapV laws_FnExactOverlapV.gives

end Go.Proofs.Ytgleficokgjmoaa
