/- The machine walks the functions that FnExactSameVec reaches as the plain functions say. -/
import Derived.Test.YtjbmghamakmelaaProg
import Derived.Test.YtjbmghamakmelaaP1
set_option linter.unusedVariables false
set_option maxRecDepth 100000
namespace Go.Proofs.Ytjbmghamakmelaa
open Go Go.RX Go.G880 Go.Proofs
theorem hmix : Try.prog.follows .mixedOrders = true := by kernel_rfl
/-! ### laws.toInterval -/
def laws_toInterval.t {ρ : Type} (a : Iv) (K : Iv → Option ρ) : Option ρ := K a
theorem laws_toInterval.t_eq {ρ : Type} (a : Iv) (K : Iv → Option ρ) : laws_toInterval.t a K = K (laws_toInterval a) := rfl
theorem laws_toInterval.gives (a : Iv) : GivesV Try.prog 22 [cIv.enc a] (cIv.enc (laws_toInterval a)) :=
  givesT hmix [] 0 Try.func22 rfl rfl ((by kernel_rfl : run1 Try.prog (tab []) 0 Try.f22 [cIv.enc a] [] = laws_toInterval.t a fun r => some (cIv.enc r, [])).trans (laws_toInterval.t_eq a _))
def laws_toInterval.e : Entry Try.prog := entry1 cIv cIv 22 laws_toInterval laws_toInterval.gives

/-! ### laws.toVec -/
def laws_toVec.t {ρ : Type} (a : V3) (K : V3 → Option ρ) : Option ρ := K (V3.mk (laws_toInterval a.x) (laws_toInterval a.y) (laws_toInterval a.z))
theorem laws_toVec.t_eq {ρ : Type} (a : V3) (K : V3 → Option ρ) : laws_toVec.t a K = K (laws_toVec a) := rfl
theorem laws_toVec.gives (a : V3) : GivesV Try.prog 9 [cV3.enc a] (cV3.enc (laws_toVec a)) :=
  givesT hmix [laws_toInterval.e] 0 Try.func9 rfl rfl ((by kernel_rfl : run1 Try.prog (tab [laws_toInterval.e]) 0 Try.f9 [cV3.enc a] [] = laws_toVec.t a fun r => some (cV3.enc r, [])).trans (laws_toVec.t_eq a _))
def laws_toVec.e : Entry Try.prog := entry1 cV3 cV3 9 laws_toVec laws_toVec.gives

/-! ### spec.SameVec -/
def spec_SameVec.t {ρ : Type} (a : V3) (b : V3) (K : Bool → Option ρ) : Option ρ := K (((a.x.lo == b.x.lo) && (a.x.hi == b.x.hi)) && (((a.y.lo == b.y.lo) && (a.y.hi == b.y.hi)) && ((a.z.lo == b.z.lo) && (a.z.hi == b.z.hi))))
theorem spec_SameVec.t_eq {ρ : Type} (a : V3) (b : V3) (K : Bool → Option ρ) : spec_SameVec.t a b K = K (spec_SameVec a b) := rfl
theorem spec_SameVec.gives (a : V3) (b : V3) : GivesV Try.prog 8 [cV3.enc a, cV3.enc b] (cBool.enc (spec_SameVec a b)) :=
  givesT hmix [] 0 Try.func8 rfl rfl ((by kernel_rfl : run1 Try.prog (tab []) 0 Try.f8 [cV3.enc a, cV3.enc b] [] = spec_SameVec.t a b fun r => some (cBool.enc r, [])).trans (spec_SameVec.t_eq a b _))
def spec_SameVec.e : Entry Try.prog := entry2 cV3 cV3 cBool 8 spec_SameVec spec_SameVec.gives

/-! ### impl.SameVec -/
def impl_SameVec.t {ρ : Type} (a : V3) (b : V3) (K : Bool → Option ρ) : Option ρ := K (((a.x.lo == b.x.lo) && (a.x.hi == b.x.hi)) && (((a.y.lo == b.y.lo) && (a.y.hi == b.y.hi)) && ((a.z.lo == b.z.lo) && (a.z.hi == b.z.hi))))
theorem impl_SameVec.t_eq {ρ : Type} (a : V3) (b : V3) (K : Bool → Option ρ) : impl_SameVec.t a b K = K (impl_SameVec a b) := rfl
theorem impl_SameVec.gives (a : V3) (b : V3) : GivesV Try.prog 10 [cV3.enc a, cV3.enc b] (cBool.enc (impl_SameVec a b)) :=
  givesT hmix [] 0 Try.func10 rfl rfl ((by kernel_rfl : run1 Try.prog (tab []) 0 Try.f10 [cV3.enc a, cV3.enc b] [] = impl_SameVec.t a b fun r => some (cBool.enc r, [])).trans (impl_SameVec.t_eq a b _))
def impl_SameVec.e : Entry Try.prog := entry2 cV3 cV3 cBool 10 impl_SameVec impl_SameVec.gives

/-! ### laws.FnExactSameVec -/
def laws_FnExactSameVec.t {ρ : Type} (aA : V3) (aB : V3) (K : Bool → Option ρ) : Option ρ := bif (!((impl_SameVec (laws_toVec aA) (laws_toVec aB)) == (spec_SameVec (laws_toVec aA) (laws_toVec aB)))) then (K false) else (K true)
theorem laws_FnExactSameVec.t_eq {ρ : Type} (aA : V3) (aB : V3) (K : Bool → Option ρ) : laws_FnExactSameVec.t aA aB K = K (laws_FnExactSameVec aA aB) := cq (fun h0 => rfl) (fun h0 => rfl)
theorem laws_FnExactSameVec.gives (aA : V3) (aB : V3) : GivesV Try.prog 3 [cV3.enc aA, cV3.enc aB] (cBool.enc (laws_FnExactSameVec aA aB)) :=
  givesT hmix [laws_toVec.e, spec_SameVec.e, impl_SameVec.e] 0 Try.func3 rfl rfl ((by kernel_rfl : run1 Try.prog (tab [laws_toVec.e, spec_SameVec.e, impl_SameVec.e]) 0 Try.f3 [cV3.enc aA, cV3.enc aB] [] = laws_FnExactSameVec.t aA aB fun r => some (cBool.enc r, [])).trans (laws_FnExactSameVec.t_eq aA aB _))
def laws_FnExactSameVec.e : Entry Try.prog := entry2 cV3 cV3 cBool 3 laws_FnExactSameVec laws_FnExactSameVec.gives

end Go.Proofs.Ytjbmghamakmelaa
