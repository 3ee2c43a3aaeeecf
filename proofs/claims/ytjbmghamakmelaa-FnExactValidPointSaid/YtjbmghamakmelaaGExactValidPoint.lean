/- The machine walks the functions that FnExactValidPoint reaches as the plain functions say. -/
import Derived.Test.YtjbmghamakmelaaProg
import Derived.Test.YtjbmghamakmelaaP1
set_option linter.unusedVariables false
set_option maxRecDepth 100000
namespace Go.Proofs.Ytjbmghamakmelaa
open Go Go.RX Go.G880 Go.Proofs
theorem hmix : Try.prog.follows .mixedOrders = true := by kernel_rfl
/-! ### laws.toPoint -/
def laws_toPoint.t {ρ : Type} (a : Pt) (K : Pt → Option ρ) : Option ρ := K a
theorem laws_toPoint.t_eq {ρ : Type} (a : Pt) (K : Pt → Option ρ) : laws_toPoint.t a K = K (laws_toPoint a) := rfl
theorem laws_toPoint.gives (a : Pt) : GivesV Try.prog 12 [cPt.enc a] (cPt.enc (laws_toPoint a)) :=
  givesT hmix [] 0 Try.func12 rfl rfl ((by kernel_rfl : run1 Try.prog (tab []) 0 Try.f12 [cPt.enc a] [] = laws_toPoint.t a fun r => some (cPt.enc r, [])).trans (laws_toPoint.t_eq a _))
def laws_toPoint.e : Entry Try.prog := entry1 cPt cPt 12 laws_toPoint laws_toPoint.gives

/-! ### spec.l00In -/
def spec_l00In.t {ρ : Type} (n : Int) (low : Int) (high : Int) (K : Bool → Option ρ) : Option ρ := bif decide (n ≥ low) then (K (decide (n ≤ high))) else (K false)
theorem spec_l00In.t_eq {ρ : Type} (n : Int) (low : Int) (high : Int) (K : Bool → Option ρ) : spec_l00In.t n low high K = K (spec_l00In n low high) := cq (fun h0 => rfl) (fun h0 => rfl)
theorem spec_l00In.gives (n : Int) (low : Int) (high : Int) : GivesV Try.prog 28 [(cInt .i64).enc n, (cInt .i64).enc low, (cInt .i64).enc high] (cBool.enc (spec_l00In n low high)) :=
  givesT hmix [] 0 Try.func28 rfl rfl ((by kernel_rfl : run1 Try.prog (tab []) 0 Try.f28 [(cInt .i64).enc n, (cInt .i64).enc low, (cInt .i64).enc high] [] = spec_l00In.t n low high fun r => some (cBool.enc r, [])).trans (spec_l00In.t_eq n low high _))
def spec_l00In.e : Entry Try.prog := entry3 (cInt .i64) (cInt .i64) (cInt .i64) cBool 28 spec_l00In spec_l00In.gives

/-! ### spec.l11Ok -/
def spec_l11Ok.t {ρ : Type} (p : Pt) (K : Bool → Option ρ) : Option ρ := bif (spec_l00In p.lat (-900000000) 900000000) then (K (spec_l00In p.lon (-1799999999) 1800000000)) else (K false)
theorem spec_l11Ok.t_eq {ρ : Type} (p : Pt) (K : Bool → Option ρ) : spec_l11Ok.t p K = K (spec_l11Ok p) := cq (fun h0 => rfl) (fun h0 => rfl)
theorem spec_l11Ok.gives (p : Pt) : GivesV Try.prog 23 [cPt.enc p] (cBool.enc (spec_l11Ok p)) :=
  givesT hmix [spec_l00In.e] 0 Try.func23 rfl rfl ((by kernel_rfl : run1 Try.prog (tab [spec_l00In.e]) 0 Try.f23 [cPt.enc p] [] = spec_l11Ok.t p fun r => some (cBool.enc r, [])).trans (spec_l11Ok.t_eq p _))
def spec_l11Ok.e : Entry Try.prog := entry1 cPt cBool 23 spec_l11Ok spec_l11Ok.gives

/-! ### spec.ValidPoint -/
def spec_ValidPoint.t {ρ : Type} (p : Pt) (K : Bool → Option ρ) : Option ρ := K (spec_l11Ok p)
theorem spec_ValidPoint.t_eq {ρ : Type} (p : Pt) (K : Bool → Option ρ) : spec_ValidPoint.t p K = K (spec_ValidPoint p) := rfl
theorem spec_ValidPoint.gives (p : Pt) : GivesV Try.prog 11 [cPt.enc p] (cBool.enc (spec_ValidPoint p)) :=
  givesT hmix [spec_l11Ok.e] 0 Try.func11 rfl rfl ((by kernel_rfl : run1 Try.prog (tab [spec_l11Ok.e]) 0 Try.f11 [cPt.enc p] [] = spec_ValidPoint.t p fun r => some (cBool.enc r, [])).trans (spec_ValidPoint.t_eq p _))
def spec_ValidPoint.e : Entry Try.prog := entry1 cPt cBool 11 spec_ValidPoint spec_ValidPoint.gives

/-! ### impl.within -/
def impl_within.t {ρ : Type} (x : Int) (low : Int) (high : Int) (K : Bool → Option ρ) : Option ρ := bif decide (x ≥ low) then (K (decide (x ≤ high))) else (K false)
theorem impl_within.t_eq {ρ : Type} (x : Int) (low : Int) (high : Int) (K : Bool → Option ρ) : impl_within.t x low high K = K (impl_within x low high) := cq (fun h0 => rfl) (fun h0 => rfl)
theorem impl_within.gives (x : Int) (low : Int) (high : Int) : GivesV Try.prog 24 [(cInt .i64).enc x, (cInt .i64).enc low, (cInt .i64).enc high] (cBool.enc (impl_within x low high)) :=
  givesT hmix [] 0 Try.func24 rfl rfl ((by kernel_rfl : run1 Try.prog (tab []) 0 Try.f24 [(cInt .i64).enc x, (cInt .i64).enc low, (cInt .i64).enc high] [] = impl_within.t x low high fun r => some (cBool.enc r, [])).trans (impl_within.t_eq x low high _))
def impl_within.e : Entry Try.prog := entry3 (cInt .i64) (cInt .i64) (cInt .i64) cBool 24 impl_within impl_within.gives

/-! ### impl.ValidPoint -/
def impl_ValidPoint.t {ρ : Type} (p : Pt) (K : Bool → Option ρ) : Option ρ := bif (impl_within p.lat (-900000000) 900000000) then (bif decide (p.lon > (-1800000000)) then (K (decide (p.lon ≤ 1800000000))) else (K false)) else (K false)
theorem impl_ValidPoint.t_eq {ρ : Type} (p : Pt) (K : Bool → Option ρ) : impl_ValidPoint.t p K = K (impl_ValidPoint p) := cq (fun h0 => cq (fun h1 => rfl) (fun h1 => rfl)) (fun h0 => rfl)
theorem impl_ValidPoint.gives (p : Pt) : GivesV Try.prog 13 [cPt.enc p] (cBool.enc (impl_ValidPoint p)) :=
  givesT hmix [impl_within.e] 0 Try.func13 rfl rfl ((by kernel_rfl : run1 Try.prog (tab [impl_within.e]) 0 Try.f13 [cPt.enc p] [] = impl_ValidPoint.t p fun r => some (cBool.enc r, [])).trans (impl_ValidPoint.t_eq p _))
def impl_ValidPoint.e : Entry Try.prog := entry1 cPt cBool 13 impl_ValidPoint impl_ValidPoint.gives

/-! ### laws.FnExactValidPoint -/
def laws_FnExactValidPoint.t {ρ : Type} (aP : Pt) (K : Bool → Option ρ) : Option ρ := bif (!((impl_ValidPoint (laws_toPoint aP)) == (spec_ValidPoint (laws_toPoint aP)))) then (K false) else (K true)
theorem laws_FnExactValidPoint.t_eq {ρ : Type} (aP : Pt) (K : Bool → Option ρ) : laws_FnExactValidPoint.t aP K = K (laws_FnExactValidPoint aP) := cq (fun h0 => rfl) (fun h0 => rfl)
theorem laws_FnExactValidPoint.gives (aP : Pt) : GivesV Try.prog 4 [cPt.enc aP] (cBool.enc (laws_FnExactValidPoint aP)) :=
  givesT hmix [laws_toPoint.e, spec_ValidPoint.e, impl_ValidPoint.e] 0 Try.func4 rfl rfl ((by kernel_rfl : run1 Try.prog (tab [laws_toPoint.e, spec_ValidPoint.e, impl_ValidPoint.e]) 0 Try.f4 [cPt.enc aP] [] = laws_FnExactValidPoint.t aP fun r => some (cBool.enc r, [])).trans (laws_FnExactValidPoint.t_eq aP _))
def laws_FnExactValidPoint.e : Entry Try.prog := entry1 cPt cBool 4 laws_FnExactValidPoint laws_FnExactValidPoint.gives

end Go.Proofs.Ytjbmghamakmelaa
