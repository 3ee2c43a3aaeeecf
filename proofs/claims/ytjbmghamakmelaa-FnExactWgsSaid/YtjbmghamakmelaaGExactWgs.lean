/- The machine walks the functions that FnExactWgs reaches as the plain functions say. -/
import Derived.Test.YtjbmghamakmelaaProg
import Derived.Test.YtjbmghamakmelaaP1
set_option linter.unusedVariables false
set_option maxRecDepth 100000
namespace Go.Proofs.Ytjbmghamakmelaa
open Go Go.RX Go.G880 Go.Proofs
theorem hmix : Try.prog.follows .mixedOrders = true := by kernel_rfl
/-! ### spec.l12Wgs -/
def spec_l12Wgs.t {ρ : Type} (K : El → Option ρ) : Option ρ := K (El.mk 6378137000 1000000000 298257223563)
theorem spec_l12Wgs.t_eq {ρ : Type} (K : El → Option ρ) : spec_l12Wgs.t K = K spec_l12Wgs := rfl
theorem spec_l12Wgs.gives : GivesV Try.prog 26 [] (cEl.enc spec_l12Wgs) :=
  givesT hmix [] 0 Try.func26 rfl rfl ((by kernel_rfl : run1 Try.prog (tab []) 0 Try.f26 [] [] = spec_l12Wgs.t fun r => some (cEl.enc r, [])).trans (spec_l12Wgs.t_eq _))
def spec_l12Wgs.e : Entry Try.prog := entry0 cEl 26 spec_l12Wgs spec_l12Wgs.gives

/-! ### spec.Wgs -/
def spec_Wgs.t {ρ : Type} (K : El → Option ρ) : Option ρ := K spec_l12Wgs
theorem spec_Wgs.t_eq {ρ : Type} (K : El → Option ρ) : spec_Wgs.t K = K spec_Wgs := rfl
theorem spec_Wgs.gives : GivesV Try.prog 17 [] (cEl.enc spec_Wgs) :=
  givesT hmix [spec_l12Wgs.e] 0 Try.func17 rfl rfl ((by kernel_rfl : run1 Try.prog (tab [spec_l12Wgs.e]) 0 Try.f17 [] [] = spec_Wgs.t fun r => some (cEl.enc r, [])).trans (spec_Wgs.t_eq _))
def spec_Wgs.e : Entry Try.prog := entry0 cEl 17 spec_Wgs spec_Wgs.gives

/-! ### impl.Wgs -/
def impl_Wgs.t {ρ : Type} (K : El → Option ρ) : Option ρ := K (El.mk 6378137000 1000000000 298257223563)
theorem impl_Wgs.t_eq {ρ : Type} (K : El → Option ρ) : impl_Wgs.t K = K impl_Wgs := rfl
theorem impl_Wgs.gives : GivesV Try.prog 18 [] (cEl.enc impl_Wgs) :=
  givesT hmix [] 0 Try.func18 rfl rfl ((by kernel_rfl : run1 Try.prog (tab []) 0 Try.f18 [] [] = impl_Wgs.t fun r => some (cEl.enc r, [])).trans (impl_Wgs.t_eq _))
def impl_Wgs.e : Entry Try.prog := entry0 cEl 18 impl_Wgs impl_Wgs.gives

/-! ### laws.eqEllipsoid -/
def laws_eqEllipsoid.t {ρ : Type} (a : El) (b : El) (K : Bool → Option ρ) : Option ρ := bif (a.a != b.a) then (K false) else (bif (a.num != b.num) then (K false) else (bif (a.den != b.den) then (K false) else (K true)))
theorem laws_eqEllipsoid.t_eq {ρ : Type} (a : El) (b : El) (K : Bool → Option ρ) : laws_eqEllipsoid.t a b K = K (laws_eqEllipsoid a b) := cq (fun h0 => rfl) (fun h0 => cq (fun h1 => rfl) (fun h1 => cq (fun h2 => rfl) (fun h2 => rfl)))
theorem laws_eqEllipsoid.gives (a : El) (b : El) : GivesV Try.prog 19 [cEl.enc a, cEl.enc b] (cBool.enc (laws_eqEllipsoid a b)) :=
  givesT hmix [] 0 Try.func19 rfl rfl ((by kernel_rfl : run1 Try.prog (tab []) 0 Try.f19 [cEl.enc a, cEl.enc b] [] = laws_eqEllipsoid.t a b fun r => some (cBool.enc r, [])).trans (laws_eqEllipsoid.t_eq a b _))
def laws_eqEllipsoid.e : Entry Try.prog := entry2 cEl cEl cBool 19 laws_eqEllipsoid laws_eqEllipsoid.gives

/-! ### laws.FnExactWgs -/
def laws_FnExactWgs.t {ρ : Type} (K : Bool → Option ρ) : Option ρ := bif (!(laws_eqEllipsoid impl_Wgs spec_Wgs)) then (K false) else (K true)
theorem laws_FnExactWgs.t_eq {ρ : Type} (K : Bool → Option ρ) : laws_FnExactWgs.t K = K laws_FnExactWgs := cq (fun h0 => rfl) (fun h0 => rfl)
theorem laws_FnExactWgs.gives : GivesV Try.prog 6 [] (cBool.enc laws_FnExactWgs) :=
  givesT hmix [spec_Wgs.e, impl_Wgs.e, laws_eqEllipsoid.e] 0 Try.func6 rfl rfl ((by kernel_rfl : run1 Try.prog (tab [spec_Wgs.e, impl_Wgs.e, laws_eqEllipsoid.e]) 0 Try.f6 [] [] = laws_FnExactWgs.t fun r => some (cBool.enc r, [])).trans (laws_FnExactWgs.t_eq _))
def laws_FnExactWgs.e : Entry Try.prog := entry0 cBool 6 laws_FnExactWgs laws_FnExactWgs.gives

end Go.Proofs.Ytjbmghamakmelaa
