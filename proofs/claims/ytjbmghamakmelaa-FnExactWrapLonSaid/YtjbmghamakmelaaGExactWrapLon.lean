/- The machine walks the functions that FnExactWrapLon reaches as the plain functions say. -/
import Derived.Test.YtjbmghamakmelaaProg
import Derived.Test.YtjbmghamakmelaaP1
set_option linter.unusedVariables false
set_option maxRecDepth 100000
namespace Go.Proofs.Ytjbmghamakmelaa
open Go Go.RX Go.G880 Go.Proofs
theorem hmix : Try.prog.follows .mixedOrders = true := by kernel_rfl
/-! ### spec.l11Wrap -/
def spec_l11Wrap.t {ρ : Type} (n : Int) (K : Int → Option ρ) : Option ρ := bif decide ((Int.tmod n 3600000000) > 1800000000) then (bif decide ((w64 ((Int.tmod n 3600000000) - 3600000000)) ≤ (-1800000000)) then (K (w64 ((w64 ((Int.tmod n 3600000000) - 3600000000)) + 3600000000))) else (K (w64 ((Int.tmod n 3600000000) - 3600000000)))) else (bif decide ((Int.tmod n 3600000000) ≤ (-1800000000)) then (K (w64 ((Int.tmod n 3600000000) + 3600000000))) else (K (Int.tmod n 3600000000)))
theorem spec_l11Wrap.t_eq {ρ : Type} (n : Int) (K : Int → Option ρ) : spec_l11Wrap.t n K = K (spec_l11Wrap n) := cq (fun h0 => cq (fun h1 => rfl) (fun h1 => rfl)) (fun h0 => cq (fun h1 => rfl) (fun h1 => rfl))
theorem spec_l11Wrap.gives (n : Int) : GivesV Try.prog 27 [(cInt .i64).enc n] ((cInt .i64).enc (spec_l11Wrap n)) :=
  givesT hmix [] 0 Try.func27 rfl rfl ((by kernel_rfl : run1 Try.prog (tab []) 0 Try.f27 [(cInt .i64).enc n] [] = spec_l11Wrap.t n fun r => some ((cInt .i64).enc r, [])).trans (spec_l11Wrap.t_eq n _))
def spec_l11Wrap.e : Entry Try.prog := entry1 (cInt .i64) (cInt .i64) 27 spec_l11Wrap spec_l11Wrap.gives

/-! ### spec.WrapLon -/
def spec_WrapLon.t {ρ : Type} (n : Int) (K : Int → Option ρ) : Option ρ := K (spec_l11Wrap n)
theorem spec_WrapLon.t_eq {ρ : Type} (n : Int) (K : Int → Option ρ) : spec_WrapLon.t n K = K (spec_WrapLon n) := rfl
theorem spec_WrapLon.gives (n : Int) : GivesV Try.prog 20 [(cInt .i64).enc n] ((cInt .i64).enc (spec_WrapLon n)) :=
  givesT hmix [spec_l11Wrap.e] 0 Try.func20 rfl rfl ((by kernel_rfl : run1 Try.prog (tab [spec_l11Wrap.e]) 0 Try.f20 [(cInt .i64).enc n] [] = spec_WrapLon.t n fun r => some ((cInt .i64).enc r, [])).trans (spec_WrapLon.t_eq n _))
def spec_WrapLon.e : Entry Try.prog := entry1 (cInt .i64) (cInt .i64) 20 spec_WrapLon spec_WrapLon.gives

/-! ### impl.WrapLon -/
def impl_WrapLon.t {ρ : Type} (n : Int) (K : Int → Option ρ) : Option ρ := bif decide ((Int.tmod n 3600000000) > 1800000000) then (K (w64 ((Int.tmod n 3600000000) - 3600000000))) else (bif decide ((Int.tmod n 3600000000) ≤ (-1800000000)) then (K (w64 ((Int.tmod n 3600000000) + 3600000000))) else (K (Int.tmod n 3600000000)))
theorem impl_WrapLon.t_eq {ρ : Type} (n : Int) (K : Int → Option ρ) : impl_WrapLon.t n K = K (impl_WrapLon n) := cq (fun h0 => rfl) (fun h0 => cq (fun h1 => rfl) (fun h1 => rfl))
theorem impl_WrapLon.gives (n : Int) : GivesV Try.prog 21 [(cInt .i64).enc n] ((cInt .i64).enc (impl_WrapLon n)) :=
  givesT hmix [] 0 Try.func21 rfl rfl ((by kernel_rfl : run1 Try.prog (tab []) 0 Try.f21 [(cInt .i64).enc n] [] = impl_WrapLon.t n fun r => some ((cInt .i64).enc r, [])).trans (impl_WrapLon.t_eq n _))
def impl_WrapLon.e : Entry Try.prog := entry1 (cInt .i64) (cInt .i64) 21 impl_WrapLon impl_WrapLon.gives

/-! ### laws.FnExactWrapLon -/
def laws_FnExactWrapLon.t {ρ : Type} (aN : Int) (K : Bool → Option ρ) : Option ρ := bif ((impl_WrapLon aN) != (spec_WrapLon aN)) then (K false) else (K true)
theorem laws_FnExactWrapLon.t_eq {ρ : Type} (aN : Int) (K : Bool → Option ρ) : laws_FnExactWrapLon.t aN K = K (laws_FnExactWrapLon aN) := cq (fun h0 => rfl) (fun h0 => rfl)
theorem laws_FnExactWrapLon.gives (aN : Int) : GivesV Try.prog 7 [(cInt .i64).enc aN] (cBool.enc (laws_FnExactWrapLon aN)) :=
  givesT hmix [spec_WrapLon.e, impl_WrapLon.e] 0 Try.func7 rfl rfl ((by kernel_rfl : run1 Try.prog (tab [spec_WrapLon.e, impl_WrapLon.e]) 0 Try.f7 [(cInt .i64).enc aN] [] = laws_FnExactWrapLon.t aN fun r => some (cBool.enc r, [])).trans (laws_FnExactWrapLon.t_eq aN _))
def laws_FnExactWrapLon.e : Entry Try.prog := entry1 (cInt .i64) cBool 7 laws_FnExactWrapLon laws_FnExactWrapLon.gives

end Go.Proofs.Ytjbmghamakmelaa
