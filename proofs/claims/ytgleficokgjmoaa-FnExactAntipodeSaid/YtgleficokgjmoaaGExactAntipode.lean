/- The machine walks the functions that FnExactAntipode reaches as the plain functions say. -/
import Derived.Test.YtgleficokgjmoaaProg
import Derived.Test.YtgleficokgjmoaaP2
set_option linter.unusedVariables false
set_option linter.unusedSimpArgs false
set_option maxRecDepth 100000
namespace Go.Proofs.Ytgleficokgjmoaa
open Go Go.RX Go.G880 Go.Proofs
theorem hmix : Try.prog.follows .mixedOrders = true := by kernel_rfl
/-! ### laws.toPoint -/
def laws_toPoint.t {ρ : Type} (a : Pt) (K : Pt → Option ρ) : Option ρ := K a
theorem laws_toPoint.t_eq {ρ : Type} (a : Pt) (K : Pt → Option ρ) : laws_toPoint.t a K = K (laws_toPoint a) := rfl
theorem laws_toPoint.gives (a : Pt) : GivesV Try.prog 14 [cPt.enc a] (cPt.enc (laws_toPoint a)) :=
  givesT hmix [] 0 none Try.func14 rfl rfl ((by kernel_rfl : run1 Try.prog (tab []) 0 none noL Try.f14 [cPt.enc a] [] = laws_toPoint.t a fun r => some (cPt.enc r, [])).trans (laws_toPoint.t_eq a _))
def laws_toPoint.e : Entry Try.prog := entry1 cPt cPt 14 laws_toPoint laws_toPoint.gives

/-! ### spec.l00In -/
def spec_l00In.t {ρ : Type} (n : Int) (low : Int) (high : Int) (K : Bool → Option ρ) : Option ρ := bif decide (n ≥ low) then (K (decide (n ≤ high))) else (K false)
theorem spec_l00In.t_eq {ρ : Type} (n : Int) (low : Int) (high : Int) (K : Bool → Option ρ) : spec_l00In.t n low high K = K (spec_l00In n low high) := cq (fun h0 => rfl) (fun h0 => rfl)
theorem spec_l00In.gives (n : Int) (low : Int) (high : Int) : GivesV Try.prog 46 [(cInt .i64).enc n, (cInt .i64).enc low, (cInt .i64).enc high] (cBool.enc (spec_l00In n low high)) :=
  givesT hmix [] 0 none Try.func46 rfl rfl ((by kernel_rfl : run1 Try.prog (tab []) 0 none noL Try.f46 [(cInt .i64).enc n, (cInt .i64).enc low, (cInt .i64).enc high] [] = spec_l00In.t n low high fun r => some (cBool.enc r, [])).trans (spec_l00In.t_eq n low high _))
def spec_l00In.e : Entry Try.prog := entry3 (cInt .i64) (cInt .i64) (cInt .i64) cBool 46 spec_l00In spec_l00In.gives

/-! ### spec.l11Ok -/
def spec_l11Ok.t {ρ : Type} (p : Pt) (K : Bool → Option ρ) : Option ρ := bif (spec_l00In p.lat (-900000000) 900000000) then (K (spec_l00In p.lon (-1799999999) 1800000000)) else (K false)
theorem spec_l11Ok.t_eq {ρ : Type} (p : Pt) (K : Bool → Option ρ) : spec_l11Ok.t p K = K (spec_l11Ok p) := cq (fun h0 => rfl) (fun h0 => rfl)
theorem spec_l11Ok.gives (p : Pt) : GivesV Try.prog 31 [cPt.enc p] (cBool.enc (spec_l11Ok p)) :=
  givesT hmix [spec_l00In.e] 0 none Try.func31 rfl rfl ((by kernel_rfl : run1 Try.prog (tab [spec_l00In.e]) 0 none noL Try.f31 [cPt.enc p] [] = spec_l11Ok.t p fun r => some (cBool.enc r, [])).trans (spec_l11Ok.t_eq p _))
def spec_l11Ok.e : Entry Try.prog := entry1 cPt cBool 31 spec_l11Ok spec_l11Ok.gives

/-! ### spec.l11Wrap -/
def spec_l11Wrap.t {ρ : Type} (n : Int) (K : Int → Option ρ) : Option ρ := bif decide ((Int.tmod n 3600000000) > 1800000000) then (bif decide ((w64 ((Int.tmod n 3600000000) - 3600000000)) ≤ (-1800000000)) then (K (w64 ((w64 ((Int.tmod n 3600000000) - 3600000000)) + 3600000000))) else (K (w64 ((Int.tmod n 3600000000) - 3600000000)))) else (bif decide ((Int.tmod n 3600000000) ≤ (-1800000000)) then (K (w64 ((Int.tmod n 3600000000) + 3600000000))) else (K (Int.tmod n 3600000000)))
theorem spec_l11Wrap.t_eq {ρ : Type} (n : Int) (K : Int → Option ρ) : spec_l11Wrap.t n K = K (spec_l11Wrap n) := cq (fun h0 => cq (fun h1 => rfl) (fun h1 => rfl)) (fun h0 => cq (fun h1 => rfl) (fun h1 => rfl))
theorem spec_l11Wrap.gives (n : Int) : GivesV Try.prog 35 [(cInt .i64).enc n] ((cInt .i64).enc (spec_l11Wrap n)) :=
  givesT hmix [] 0 none Try.func35 rfl rfl ((by kernel_rfl : run1 Try.prog (tab []) 0 none noL Try.f35 [(cInt .i64).enc n] [] = spec_l11Wrap.t n fun r => some ((cInt .i64).enc r, [])).trans (spec_l11Wrap.t_eq n _))
def spec_l11Wrap.e : Entry Try.prog := entry1 (cInt .i64) (cInt .i64) 35 spec_l11Wrap spec_l11Wrap.gives

/-! ### spec.Antipode -/
def spec_Antipode.t {ρ : Type} (p : Pt) (K : (Pt × Int) → Option ρ) : Option ρ := bif (!(spec_l11Ok p)) then (K ((Pt.mk 0 0), 1)) else (K ((Pt.mk (w64 (0 - p.lat)) (spec_l11Wrap (w64 (p.lon + 1800000000)))), 0))
theorem spec_Antipode.t_eq {ρ : Type} (p : Pt) (K : (Pt × Int) → Option ρ) : spec_Antipode.t p K = K (spec_Antipode p) := cq (fun h0 => rfl) (fun h0 => rfl)
theorem spec_Antipode.gives (p : Pt) : GivesV Try.prog 18 [cPt.enc p] ((cT2 cPt (cInt .i64)).enc (spec_Antipode p)) :=
  givesT hmix [spec_l11Ok.e, spec_l11Wrap.e] 0 none Try.func18 rfl rfl ((by kernel_rfl : run1 Try.prog (tab [spec_l11Ok.e, spec_l11Wrap.e]) 0 none noL Try.f18 [cPt.enc p] [] = spec_Antipode.t p fun r => some ((cT2 cPt (cInt .i64)).enc r, [])).trans (spec_Antipode.t_eq p _))
def spec_Antipode.e : Entry Try.prog := entry1 cPt (cT2 cPt (cInt .i64)) 18 spec_Antipode spec_Antipode.gives

/-! ### impl.within -/
def impl_within.t {ρ : Type} (x : Int) (low : Int) (high : Int) (K : Bool → Option ρ) : Option ρ := bif decide (x ≥ low) then (K (decide (x ≤ high))) else (K false)
theorem impl_within.t_eq {ρ : Type} (x : Int) (low : Int) (high : Int) (K : Bool → Option ρ) : impl_within.t x low high K = K (impl_within x low high) := cq (fun h0 => rfl) (fun h0 => rfl)
theorem impl_within.gives (x : Int) (low : Int) (high : Int) : GivesV Try.prog 30 [(cInt .i64).enc x, (cInt .i64).enc low, (cInt .i64).enc high] (cBool.enc (impl_within x low high)) :=
  givesT hmix [] 0 none Try.func30 rfl rfl ((by kernel_rfl : run1 Try.prog (tab []) 0 none noL Try.f30 [(cInt .i64).enc x, (cInt .i64).enc low, (cInt .i64).enc high] [] = impl_within.t x low high fun r => some (cBool.enc r, [])).trans (impl_within.t_eq x low high _))
def impl_within.e : Entry Try.prog := entry3 (cInt .i64) (cInt .i64) (cInt .i64) cBool 30 impl_within impl_within.gives

/-! ### impl.ValidPoint -/
def impl_ValidPoint.t {ρ : Type} (p : Pt) (K : Bool → Option ρ) : Option ρ := bif (impl_within p.lat (-900000000) 900000000) then (bif decide (p.lon > (-1800000000)) then (K (decide (p.lon ≤ 1800000000))) else (K false)) else (K false)
theorem impl_ValidPoint.t_eq {ρ : Type} (p : Pt) (K : Bool → Option ρ) : impl_ValidPoint.t p K = K (impl_ValidPoint p) := cq (fun h0 => cq (fun h1 => rfl) (fun h1 => rfl)) (fun h0 => rfl)
theorem impl_ValidPoint.gives (p : Pt) : GivesV Try.prog 37 [cPt.enc p] (cBool.enc (impl_ValidPoint p)) :=
  givesT hmix [impl_within.e] 0 none Try.func37 rfl rfl ((by kernel_rfl : run1 Try.prog (tab [impl_within.e]) 0 none noL Try.f37 [cPt.enc p] [] = impl_ValidPoint.t p fun r => some (cBool.enc r, [])).trans (impl_ValidPoint.t_eq p _))
def impl_ValidPoint.e : Entry Try.prog := entry1 cPt cBool 37 impl_ValidPoint impl_ValidPoint.gives

/-! ### impl.WrapLon -/
def impl_WrapLon.t {ρ : Type} (n : Int) (K : Int → Option ρ) : Option ρ := bif decide ((Int.tmod n 3600000000) > 1800000000) then (K (w64 ((Int.tmod n 3600000000) - 3600000000))) else (bif decide ((Int.tmod n 3600000000) ≤ (-1800000000)) then (K (w64 ((Int.tmod n 3600000000) + 3600000000))) else (K (Int.tmod n 3600000000)))
theorem impl_WrapLon.t_eq {ρ : Type} (n : Int) (K : Int → Option ρ) : impl_WrapLon.t n K = K (impl_WrapLon n) := cq (fun h0 => rfl) (fun h0 => cq (fun h1 => rfl) (fun h1 => rfl))
theorem impl_WrapLon.gives (n : Int) : GivesV Try.prog 36 [(cInt .i64).enc n] ((cInt .i64).enc (impl_WrapLon n)) :=
  givesT hmix [] 0 none Try.func36 rfl rfl ((by kernel_rfl : run1 Try.prog (tab []) 0 none noL Try.f36 [(cInt .i64).enc n] [] = impl_WrapLon.t n fun r => some ((cInt .i64).enc r, [])).trans (impl_WrapLon.t_eq n _))
def impl_WrapLon.e : Entry Try.prog := entry1 (cInt .i64) (cInt .i64) 36 impl_WrapLon impl_WrapLon.gives

/-! ### impl.Antipode -/
def impl_Antipode.t {ρ : Type} (p : Pt) (K : (Pt × Int) → Option ρ) : Option ρ := bif (!(impl_ValidPoint p)) then (K ((Pt.mk 0 0), 1)) else (K ((Pt.mk (w64 (0 - p.lat)) (impl_WrapLon (w64 (p.lon + 1800000000)))), 0))
theorem impl_Antipode.t_eq {ρ : Type} (p : Pt) (K : (Pt × Int) → Option ρ) : impl_Antipode.t p K = K (impl_Antipode p) := cq (fun h0 => rfl) (fun h0 => rfl)
theorem impl_Antipode.gives (p : Pt) : GivesV Try.prog 19 [cPt.enc p] ((cT2 cPt (cInt .i64)).enc (impl_Antipode p)) :=
  givesT hmix [impl_ValidPoint.e, impl_WrapLon.e] 0 none Try.func19 rfl rfl ((by kernel_rfl : run1 Try.prog (tab [impl_ValidPoint.e, impl_WrapLon.e]) 0 none noL Try.f19 [cPt.enc p] [] = impl_Antipode.t p fun r => some ((cT2 cPt (cInt .i64)).enc r, [])).trans (impl_Antipode.t_eq p _))
def impl_Antipode.e : Entry Try.prog := entry1 cPt (cT2 cPt (cInt .i64)) 19 impl_Antipode impl_Antipode.gives

/-! ### laws.eqPoint -/
def laws_eqPoint.t {ρ : Type} (a : Pt) (b : Pt) (K : Bool → Option ρ) : Option ρ := bif (a.lat != b.lat) then (K false) else (bif (a.lon != b.lon) then (K false) else (K true))
theorem laws_eqPoint.t_eq {ρ : Type} (a : Pt) (b : Pt) (K : Bool → Option ρ) : laws_eqPoint.t a b K = K (laws_eqPoint a b) := cq (fun h0 => rfl) (fun h0 => cq (fun h1 => rfl) (fun h1 => rfl))
theorem laws_eqPoint.gives (a : Pt) (b : Pt) : GivesV Try.prog 20 [cPt.enc a, cPt.enc b] (cBool.enc (laws_eqPoint a b)) :=
  givesT hmix [] 0 none Try.func20 rfl rfl ((by kernel_rfl : run1 Try.prog (tab []) 0 none noL Try.f20 [cPt.enc a, cPt.enc b] [] = laws_eqPoint.t a b fun r => some (cBool.enc r, [])).trans (laws_eqPoint.t_eq a b _))
def laws_eqPoint.e : Entry Try.prog := entry2 cPt cPt cBool 20 laws_eqPoint laws_eqPoint.gives

/-! ### laws.FnExactAntipode -/
def laws_FnExactAntipode.t {ρ : Type} (aP : Pt) (K : Bool → Option ρ) : Option ρ := let t2 := (spec_Antipode (laws_toPoint aP)); let t4 := (impl_Antipode (laws_toPoint aP)); bif (!(laws_eqPoint t4.1 t2.1)) then (K false) else (bif (t4.2 != t2.2) then (K false) else (K true))
theorem laws_FnExactAntipode.t_eq {ρ : Type} (aP : Pt) (K : Bool → Option ρ) : laws_FnExactAntipode.t aP K = K (laws_FnExactAntipode aP) := cq (fun h0 => rfl) (fun h0 => cq (fun h1 => rfl) (fun h1 => rfl))
theorem laws_FnExactAntipode.gives (aP : Pt) : GivesV Try.prog 6 [cPt.enc aP] (cBool.enc (laws_FnExactAntipode aP)) :=
  givesT hmix [laws_toPoint.e, spec_Antipode.e, impl_Antipode.e, laws_eqPoint.e] 0 none Try.func6 rfl rfl ((by kernel_rfl : run1 Try.prog (tab [laws_toPoint.e, spec_Antipode.e, impl_Antipode.e, laws_eqPoint.e]) 0 none noL Try.f6 [cPt.enc aP] [] = laws_FnExactAntipode.t aP fun r => some (cBool.enc r, [])).trans (laws_FnExactAntipode.t_eq aP _))
def laws_FnExactAntipode.e : Entry Try.prog := entry1 cPt cBool 6 laws_FnExactAntipode laws_FnExactAntipode.gives

end Go.Proofs.Ytgleficokgjmoaa
