/- The machine walks the functions that FnExactValidEllipsoid reaches as the plain functions say. -/
import Derived.Test.YtjbmghamakmelaaProg
import Derived.Test.YtjbmghamakmelaaP1
set_option linter.unusedVariables false
set_option maxRecDepth 100000
namespace Go.Proofs.Ytjbmghamakmelaa
open Go Go.RX Go.G880 Go.Proofs
theorem hmix : Try.prog.follows .mixedOrders = true := by kernel_rfl
/-! ### spec.l00In -/
def spec_l00In.t {ρ : Type} (n : Int) (low : Int) (high : Int) (K : Bool → Option ρ) : Option ρ := bif decide (n ≥ low) then (K (decide (n ≤ high))) else (K false)
theorem spec_l00In.t_eq {ρ : Type} (n : Int) (low : Int) (high : Int) (K : Bool → Option ρ) : spec_l00In.t n low high K = K (spec_l00In n low high) := cq (fun h0 => rfl) (fun h0 => rfl)
theorem spec_l00In.gives (n : Int) (low : Int) (high : Int) : GivesV Try.prog 28 [(cInt .i64).enc n, (cInt .i64).enc low, (cInt .i64).enc high] (cBool.enc (spec_l00In n low high)) :=
  givesT hmix [] 0 Try.func28 rfl rfl ((by kernel_rfl : run1 Try.prog (tab []) 0 Try.f28 [(cInt .i64).enc n, (cInt .i64).enc low, (cInt .i64).enc high] [] = spec_l00In.t n low high fun r => some (cBool.enc r, [])).trans (spec_l00In.t_eq n low high _))
def spec_l00In.e : Entry Try.prog := entry3 (cInt .i64) (cInt .i64) (cInt .i64) cBool 28 spec_l00In spec_l00In.gives

/-! ### impl.within -/
def impl_within.t {ρ : Type} (x : Int) (low : Int) (high : Int) (K : Bool → Option ρ) : Option ρ := bif decide (x ≥ low) then (K (decide (x ≤ high))) else (K false)
theorem impl_within.t_eq {ρ : Type} (x : Int) (low : Int) (high : Int) (K : Bool → Option ρ) : impl_within.t x low high K = K (impl_within x low high) := cq (fun h0 => rfl) (fun h0 => rfl)
theorem impl_within.gives (x : Int) (low : Int) (high : Int) : GivesV Try.prog 24 [(cInt .i64).enc x, (cInt .i64).enc low, (cInt .i64).enc high] (cBool.enc (impl_within x low high)) :=
  givesT hmix [] 0 Try.func24 rfl rfl ((by kernel_rfl : run1 Try.prog (tab []) 0 Try.f24 [(cInt .i64).enc x, (cInt .i64).enc low, (cInt .i64).enc high] [] = impl_within.t x low high fun r => some (cBool.enc r, [])).trans (impl_within.t_eq x low high _))
def impl_within.e : Entry Try.prog := entry3 (cInt .i64) (cInt .i64) (cInt .i64) cBool 24 impl_within impl_within.gives

/-! ### laws.toEllipsoid -/
def laws_toEllipsoid.t {ρ : Type} (a : El) (K : El → Option ρ) : Option ρ := K a
theorem laws_toEllipsoid.t_eq {ρ : Type} (a : El) (K : El → Option ρ) : laws_toEllipsoid.t a K = K (laws_toEllipsoid a) := rfl
theorem laws_toEllipsoid.gives (a : El) : GivesV Try.prog 15 [cEl.enc a] (cEl.enc (laws_toEllipsoid a)) :=
  givesT hmix [] 0 Try.func15 rfl rfl ((by kernel_rfl : run1 Try.prog (tab []) 0 Try.f15 [cEl.enc a] [] = laws_toEllipsoid.t a fun r => some (cEl.enc r, [])).trans (laws_toEllipsoid.t_eq a _))
def laws_toEllipsoid.e : Entry Try.prog := entry1 cEl cEl 15 laws_toEllipsoid laws_toEllipsoid.gives

/-! ### spec.l12Ok -/
def spec_l12Ok.t {ρ : Type} (e_0 : El) (K : Bool → Option ρ) : Option ρ := bif (spec_l00In e_0.a 1000 100000000000) then (bif (spec_l00In e_0.den 1 1000000000000) then (bif decide (e_0.num ≥ 0) then (K (decide (e_0.num ≤ (w64 (Int.tdiv e_0.den 100))))) else (K false)) else (K false)) else (K false)
theorem spec_l12Ok.t_eq {ρ : Type} (e_0 : El) (K : Bool → Option ρ) : spec_l12Ok.t e_0 K = K (spec_l12Ok e_0) := cq (fun h0 => cq (fun h1 => cq (fun h2 => rfl) (fun h2 => rfl)) (fun h1 => rfl)) (fun h0 => rfl)
theorem spec_l12Ok.gives (e_0 : El) : GivesV Try.prog 25 [cEl.enc e_0] (cBool.enc (spec_l12Ok e_0)) :=
  givesT hmix [spec_l00In.e] 0 Try.func25 rfl rfl ((by kernel_rfl : run1 Try.prog (tab [spec_l00In.e]) 0 Try.f25 [cEl.enc e_0] [] = spec_l12Ok.t e_0 fun r => some (cBool.enc r, [])).trans (spec_l12Ok.t_eq e_0 _))
def spec_l12Ok.e : Entry Try.prog := entry1 cEl cBool 25 spec_l12Ok spec_l12Ok.gives

/-! ### spec.ValidEllipsoid -/
def spec_ValidEllipsoid.t {ρ : Type} (e_0 : El) (K : Bool → Option ρ) : Option ρ := K (spec_l12Ok e_0)
theorem spec_ValidEllipsoid.t_eq {ρ : Type} (e_0 : El) (K : Bool → Option ρ) : spec_ValidEllipsoid.t e_0 K = K (spec_ValidEllipsoid e_0) := rfl
theorem spec_ValidEllipsoid.gives (e_0 : El) : GivesV Try.prog 14 [cEl.enc e_0] (cBool.enc (spec_ValidEllipsoid e_0)) :=
  givesT hmix [spec_l12Ok.e] 0 Try.func14 rfl rfl ((by kernel_rfl : run1 Try.prog (tab [spec_l12Ok.e]) 0 Try.f14 [cEl.enc e_0] [] = spec_ValidEllipsoid.t e_0 fun r => some (cBool.enc r, [])).trans (spec_ValidEllipsoid.t_eq e_0 _))
def spec_ValidEllipsoid.e : Entry Try.prog := entry1 cEl cBool 14 spec_ValidEllipsoid spec_ValidEllipsoid.gives

/-! ### impl.ValidEllipsoid -/
def impl_ValidEllipsoid.t {ρ : Type} (e_0 : El) (K : Bool → Option ρ) : Option ρ := bif (impl_within e_0.a 1000 100000000000) then (bif (impl_within e_0.den 1 1000000000000) then (K (impl_within e_0.num 0 (w64 (Int.tdiv e_0.den 100)))) else (K false)) else (K false)
theorem impl_ValidEllipsoid.t_eq {ρ : Type} (e_0 : El) (K : Bool → Option ρ) : impl_ValidEllipsoid.t e_0 K = K (impl_ValidEllipsoid e_0) := cq (fun h0 => cq (fun h1 => rfl) (fun h1 => rfl)) (fun h0 => rfl)
theorem impl_ValidEllipsoid.gives (e_0 : El) : GivesV Try.prog 16 [cEl.enc e_0] (cBool.enc (impl_ValidEllipsoid e_0)) :=
  givesT hmix [impl_within.e] 0 Try.func16 rfl rfl ((by kernel_rfl : run1 Try.prog (tab [impl_within.e]) 0 Try.f16 [cEl.enc e_0] [] = impl_ValidEllipsoid.t e_0 fun r => some (cBool.enc r, [])).trans (impl_ValidEllipsoid.t_eq e_0 _))
def impl_ValidEllipsoid.e : Entry Try.prog := entry1 cEl cBool 16 impl_ValidEllipsoid impl_ValidEllipsoid.gives

/-! ### laws.FnExactValidEllipsoid -/
def laws_FnExactValidEllipsoid.t {ρ : Type} (aE : El) (K : Bool → Option ρ) : Option ρ := bif (!((impl_ValidEllipsoid (laws_toEllipsoid aE)) == (spec_ValidEllipsoid (laws_toEllipsoid aE)))) then (K false) else (K true)
theorem laws_FnExactValidEllipsoid.t_eq {ρ : Type} (aE : El) (K : Bool → Option ρ) : laws_FnExactValidEllipsoid.t aE K = K (laws_FnExactValidEllipsoid aE) := cq (fun h0 => rfl) (fun h0 => rfl)
theorem laws_FnExactValidEllipsoid.gives (aE : El) : GivesV Try.prog 5 [cEl.enc aE] (cBool.enc (laws_FnExactValidEllipsoid aE)) :=
  givesT hmix [laws_toEllipsoid.e, spec_ValidEllipsoid.e, impl_ValidEllipsoid.e] 0 Try.func5 rfl rfl ((by kernel_rfl : run1 Try.prog (tab [laws_toEllipsoid.e, spec_ValidEllipsoid.e, impl_ValidEllipsoid.e]) 0 Try.f5 [cEl.enc aE] [] = laws_FnExactValidEllipsoid.t aE fun r => some (cBool.enc r, [])).trans (laws_FnExactValidEllipsoid.t_eq aE _))
def laws_FnExactValidEllipsoid.e : Entry Try.prog := entry1 cEl cBool 5 laws_FnExactValidEllipsoid laws_FnExactValidEllipsoid.gives

end Go.Proofs.Ytjbmghamakmelaa
