/- The machine walks the functions that FnExactSphereOf reaches as the plain functions say. -/
import Derived.Test.YtgleficokgjmoaaProg
import Derived.Test.YtgleficokgjmoaaP2
set_option linter.unusedVariables false
set_option linter.unusedSimpArgs false
set_option maxRecDepth 100000
namespace Go.Proofs.Ytgleficokgjmoaa
open Go Go.RX Go.G880 Go.Proofs
theorem hmix : Try.prog.follows .mixedOrders = true := by kernel_rfl
/-! ### spec.l00In -/
def spec_l00In.t {ρ : Type} (n : Int) (low : Int) (high : Int) (K : Bool → Option ρ) : Option ρ := bif decide (n ≥ low) then (K (decide (n ≤ high))) else (K false)
theorem spec_l00In.t_eq {ρ : Type} (n : Int) (low : Int) (high : Int) (K : Bool → Option ρ) : spec_l00In.t n low high K = K (spec_l00In n low high) := cq (fun h0 => rfl) (fun h0 => rfl)
theorem spec_l00In.gives (n : Int) (low : Int) (high : Int) : GivesV Try.prog 46 [(cInt .i64).enc n, (cInt .i64).enc low, (cInt .i64).enc high] (cBool.enc (spec_l00In n low high)) :=
  givesT hmix [] 0 none Try.func46 rfl rfl ((by kernel_rfl : run1 Try.prog (tab []) 0 none noL Try.f46 [(cInt .i64).enc n, (cInt .i64).enc low, (cInt .i64).enc high] [] = spec_l00In.t n low high fun r => some (cBool.enc r, [])).trans (spec_l00In.t_eq n low high _))
def spec_l00In.e : Entry Try.prog := entry3 (cInt .i64) (cInt .i64) (cInt .i64) cBool 46 spec_l00In spec_l00In.gives

/-! ### impl.within -/
def impl_within.t {ρ : Type} (x : Int) (low : Int) (high : Int) (K : Bool → Option ρ) : Option ρ := bif decide (x ≥ low) then (K (decide (x ≤ high))) else (K false)
theorem impl_within.t_eq {ρ : Type} (x : Int) (low : Int) (high : Int) (K : Bool → Option ρ) : impl_within.t x low high K = K (impl_within x low high) := cq (fun h0 => rfl) (fun h0 => rfl)
theorem impl_within.gives (x : Int) (low : Int) (high : Int) : GivesV Try.prog 30 [(cInt .i64).enc x, (cInt .i64).enc low, (cInt .i64).enc high] (cBool.enc (impl_within x low high)) :=
  givesT hmix [] 0 none Try.func30 rfl rfl ((by kernel_rfl : run1 Try.prog (tab []) 0 none noL Try.f30 [(cInt .i64).enc x, (cInt .i64).enc low, (cInt .i64).enc high] [] = impl_within.t x low high fun r => some (cBool.enc r, [])).trans (impl_within.t_eq x low high _))
def impl_within.e : Entry Try.prog := entry3 (cInt .i64) (cInt .i64) (cInt .i64) cBool 30 impl_within impl_within.gives

/-! ### spec.l12Ok -/
def spec_l12Ok.t {ρ : Type} (e_0 : El) (K : Bool → Option ρ) : Option ρ := bif (spec_l00In e_0.a 1000 100000000000) then (bif (spec_l00In e_0.den 1 1000000000000) then (bif decide (e_0.num ≥ 0) then (K (decide (e_0.num ≤ (w64 (Int.tdiv e_0.den 100))))) else (K false)) else (K false)) else (K false)
theorem spec_l12Ok.t_eq {ρ : Type} (e_0 : El) (K : Bool → Option ρ) : spec_l12Ok.t e_0 K = K (spec_l12Ok e_0) := cq (fun h0 => cq (fun h1 => cq (fun h2 => rfl) (fun h2 => rfl)) (fun h1 => rfl)) (fun h0 => rfl)
theorem spec_l12Ok.gives (e_0 : El) : GivesV Try.prog 29 [cEl.enc e_0] (cBool.enc (spec_l12Ok e_0)) :=
  givesT hmix [spec_l00In.e] 0 none Try.func29 rfl rfl ((by kernel_rfl : run1 Try.prog (tab [spec_l00In.e]) 0 none noL Try.f29 [cEl.enc e_0] [] = spec_l12Ok.t e_0 fun r => some (cBool.enc r, [])).trans (spec_l12Ok.t_eq e_0 _))
def spec_l12Ok.e : Entry Try.prog := entry1 cEl cBool 29 spec_l12Ok spec_l12Ok.gives

/-! ### spec.SphereOf -/
def spec_SphereOf.t {ρ : Type} (a : Int) (K : (El × Int) → Option ρ) : Option ρ := bif (!(spec_l12Ok (El.mk a 0 1))) then (K ((El.mk 0 0 0), 2)) else (K ((El.mk a 0 1), 0))
theorem spec_SphereOf.t_eq {ρ : Type} (a : Int) (K : (El × Int) → Option ρ) : spec_SphereOf.t a K = K (spec_SphereOf a) := cq (fun h0 => rfl) (fun h0 => rfl)
theorem spec_SphereOf.gives (a : Int) : GivesV Try.prog 10 [(cInt .i64).enc a] ((cT2 cEl (cInt .i64)).enc (spec_SphereOf a)) :=
  givesT hmix [spec_l12Ok.e] 0 none Try.func10 rfl rfl ((by kernel_rfl : run1 Try.prog (tab [spec_l12Ok.e]) 0 none noL Try.f10 [(cInt .i64).enc a] [] = spec_SphereOf.t a fun r => some ((cT2 cEl (cInt .i64)).enc r, [])).trans (spec_SphereOf.t_eq a _))
def spec_SphereOf.e : Entry Try.prog := entry1 (cInt .i64) (cT2 cEl (cInt .i64)) 10 spec_SphereOf spec_SphereOf.gives

/-! ### impl.SphereOf -/
def impl_SphereOf.t {ρ : Type} (a : Int) (K : (El × Int) → Option ρ) : Option ρ := bif (!(impl_within a 1000 100000000000)) then (K ((El.mk 0 0 0), 2)) else (K ((El.mk a 0 1), 0))
theorem impl_SphereOf.t_eq {ρ : Type} (a : Int) (K : (El × Int) → Option ρ) : impl_SphereOf.t a K = K (impl_SphereOf a) := cq (fun h0 => rfl) (fun h0 => rfl)
theorem impl_SphereOf.gives (a : Int) : GivesV Try.prog 11 [(cInt .i64).enc a] ((cT2 cEl (cInt .i64)).enc (impl_SphereOf a)) :=
  givesT hmix [impl_within.e] 0 none Try.func11 rfl rfl ((by kernel_rfl : run1 Try.prog (tab [impl_within.e]) 0 none noL Try.f11 [(cInt .i64).enc a] [] = impl_SphereOf.t a fun r => some ((cT2 cEl (cInt .i64)).enc r, [])).trans (impl_SphereOf.t_eq a _))
def impl_SphereOf.e : Entry Try.prog := entry1 (cInt .i64) (cT2 cEl (cInt .i64)) 11 impl_SphereOf impl_SphereOf.gives

/-! ### laws.eqEllipsoid -/
def laws_eqEllipsoid.t {ρ : Type} (a : El) (b : El) (K : Bool → Option ρ) : Option ρ := bif (a.a != b.a) then (K false) else (bif (a.num != b.num) then (K false) else (bif (a.den != b.den) then (K false) else (K true)))
theorem laws_eqEllipsoid.t_eq {ρ : Type} (a : El) (b : El) (K : Bool → Option ρ) : laws_eqEllipsoid.t a b K = K (laws_eqEllipsoid a b) := cq (fun h0 => rfl) (fun h0 => cq (fun h1 => rfl) (fun h1 => cq (fun h2 => rfl) (fun h2 => rfl)))
theorem laws_eqEllipsoid.gives (a : El) (b : El) : GivesV Try.prog 12 [cEl.enc a, cEl.enc b] (cBool.enc (laws_eqEllipsoid a b)) :=
  givesT hmix [] 0 none Try.func12 rfl rfl ((by kernel_rfl : run1 Try.prog (tab []) 0 none noL Try.f12 [cEl.enc a, cEl.enc b] [] = laws_eqEllipsoid.t a b fun r => some (cBool.enc r, [])).trans (laws_eqEllipsoid.t_eq a b _))
def laws_eqEllipsoid.e : Entry Try.prog := entry2 cEl cEl cBool 12 laws_eqEllipsoid laws_eqEllipsoid.gives

/-! ### laws.FnExactSphereOf -/
def laws_FnExactSphereOf.t {ρ : Type} (aA : Int) (K : Bool → Option ρ) : Option ρ := let t1 := (spec_SphereOf aA); let t2 := (impl_SphereOf aA); bif (!(laws_eqEllipsoid t2.1 t1.1)) then (K false) else (bif (t2.2 != t1.2) then (K false) else (K true))
theorem laws_FnExactSphereOf.t_eq {ρ : Type} (aA : Int) (K : Bool → Option ρ) : laws_FnExactSphereOf.t aA K = K (laws_FnExactSphereOf aA) := cq (fun h0 => rfl) (fun h0 => cq (fun h1 => rfl) (fun h1 => rfl))
theorem laws_FnExactSphereOf.gives (aA : Int) : GivesV Try.prog 3 [(cInt .i64).enc aA] (cBool.enc (laws_FnExactSphereOf aA)) :=
  givesT hmix [spec_SphereOf.e, impl_SphereOf.e, laws_eqEllipsoid.e] 0 none Try.func3 rfl rfl ((by kernel_rfl : run1 Try.prog (tab [spec_SphereOf.e, impl_SphereOf.e, laws_eqEllipsoid.e]) 0 none noL Try.f3 [(cInt .i64).enc aA] [] = laws_FnExactSphereOf.t aA fun r => some (cBool.enc r, [])).trans (laws_FnExactSphereOf.t_eq aA _))
def laws_FnExactSphereOf.e : Entry Try.prog := entry1 (cInt .i64) cBool 3 laws_FnExactSphereOf laws_FnExactSphereOf.gives

end Go.Proofs.Ytgleficokgjmoaa
