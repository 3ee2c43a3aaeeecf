/- The machine walks the functions that FnExactLonBetween reaches as the plain functions say. -/
import Derived.Test.YtgleficokgjmoaaProg
import Derived.Test.YtgleficokgjmoaaP2
set_option linter.unusedVariables false
set_option linter.unusedSimpArgs false
set_option maxRecDepth 100000
namespace Go.Proofs.Ytgleficokgjmoaa
open Go Go.RX Go.G880 Go.Proofs
theorem hmix : Try.prog.follows .mixedOrders = true := by kernel_rfl
/-! ### laws.toPoint -/
def laws_toPoint.t {ρ : Type} (a : Pt) (K : Pt → Option ρ) : Option ρ := K a
theorem laws_toPoint.t_eq {ρ : Type} (a : Pt) (K : Pt → Option ρ) : laws_toPoint.t a K = K (laws_toPoint a) := rfl
theorem laws_toPoint.gives (a : Pt) : GivesV Try.prog 14 [cPt.enc a] (cPt.enc (laws_toPoint a)) :=
  givesT hmix [] 0 none Try.func14 rfl rfl ((by kernel_rfl : run1 Try.prog (tab []) 0 none noL Try.f14 [cPt.enc a] [] = laws_toPoint.t a fun r => some (cPt.enc r, [])).trans (laws_toPoint.t_eq a _))
def laws_toPoint.e : Entry Try.prog := entry1 cPt cPt 14 laws_toPoint laws_toPoint.gives

/-! ### spec.l00In -/
def spec_l00In.t {ρ : Type} (n : Int) (low : Int) (high : Int) (K : Bool → Option ρ) : Option ρ := bif decide (n ≥ low) then (K (decide (n ≤ high))) else (K false)
theorem spec_l00In.t_eq {ρ : Type} (n : Int) (low : Int) (high : Int) (K : Bool → Option ρ) : spec_l00In.t n low high K = K (spec_l00In n low high) := cq (fun h0 => rfl) (fun h0 => rfl)
theorem spec_l00In.gives (n : Int) (low : Int) (high : Int) : GivesV Try.prog 46 [(cInt .i64).enc n, (cInt .i64).enc low, (cInt .i64).enc high] (cBool.enc (spec_l00In n low high)) :=
  givesT hmix [] 0 none Try.func46 rfl rfl ((by kernel_rfl : run1 Try.prog (tab []) 0 none noL Try.f46 [(cInt .i64).enc n, (cInt .i64).enc low, (cInt .i64).enc high] [] = spec_l00In.t n low high fun r => some (cBool.enc r, [])).trans (spec_l00In.t_eq n low high _))
def spec_l00In.e : Entry Try.prog := entry3 (cInt .i64) (cInt .i64) (cInt .i64) cBool 46 spec_l00In spec_l00In.gives

/-! ### spec.l11Ok -/
def spec_l11Ok.t {ρ : Type} (p : Pt) (K : Bool → Option ρ) : Option ρ := bif (spec_l00In p.lat (-900000000) 900000000) then (K (spec_l00In p.lon (-1799999999) 1800000000)) else (K false)
theorem spec_l11Ok.t_eq {ρ : Type} (p : Pt) (K : Bool → Option ρ) : spec_l11Ok.t p K = K (spec_l11Ok p) := cq (fun h0 => rfl) (fun h0 => rfl)
theorem spec_l11Ok.gives (p : Pt) : GivesV Try.prog 31 [cPt.enc p] (cBool.enc (spec_l11Ok p)) :=
  givesT hmix [spec_l00In.e] 0 none Try.func31 rfl rfl ((by kernel_rfl : run1 Try.prog (tab [spec_l00In.e]) 0 none noL Try.f31 [cPt.enc p] [] = spec_l11Ok.t p fun r => some (cBool.enc r, [])).trans (spec_l11Ok.t_eq p _))
def spec_l11Ok.e : Entry Try.prog := entry1 cPt cBool 31 spec_l11Ok spec_l11Ok.gives

/-! ### spec.l11Wrap -/
def spec_l11Wrap.t {ρ : Type} (n : Int) (K : Int → Option ρ) : Option ρ := bif decide ((Int.tmod n 3600000000) > 1800000000) then (bif decide ((w64 ((Int.tmod n 3600000000) - 3600000000)) ≤ (-1800000000)) then (K (w64 ((w64 ((Int.tmod n 3600000000) - 3600000000)) + 3600000000))) else (K (w64 ((Int.tmod n 3600000000) - 3600000000)))) else (bif decide ((Int.tmod n 3600000000) ≤ (-1800000000)) then (K (w64 ((Int.tmod n 3600000000) + 3600000000))) else (K (Int.tmod n 3600000000)))
theorem spec_l11Wrap.t_eq {ρ : Type} (n : Int) (K : Int → Option ρ) : spec_l11Wrap.t n K = K (spec_l11Wrap n) := cq (fun h0 => cq (fun h1 => rfl) (fun h1 => rfl)) (fun h0 => cq (fun h1 => rfl) (fun h1 => rfl))
theorem spec_l11Wrap.gives (n : Int) : GivesV Try.prog 35 [(cInt .i64).enc n] ((cInt .i64).enc (spec_l11Wrap n)) :=
  givesT hmix [] 0 none Try.func35 rfl rfl ((by kernel_rfl : run1 Try.prog (tab []) 0 none noL Try.f35 [(cInt .i64).enc n] [] = spec_l11Wrap.t n fun r => some ((cInt .i64).enc r, [])).trans (spec_l11Wrap.t_eq n _))
def spec_l11Wrap.e : Entry Try.prog := entry1 (cInt .i64) (cInt .i64) 35 spec_l11Wrap spec_l11Wrap.gives

/-! ### impl.within -/
def impl_within.t {ρ : Type} (x : Int) (low : Int) (high : Int) (K : Bool → Option ρ) : Option ρ := bif decide (x ≥ low) then (K (decide (x ≤ high))) else (K false)
theorem impl_within.t_eq {ρ : Type} (x : Int) (low : Int) (high : Int) (K : Bool → Option ρ) : impl_within.t x low high K = K (impl_within x low high) := cq (fun h0 => rfl) (fun h0 => rfl)
theorem impl_within.gives (x : Int) (low : Int) (high : Int) : GivesV Try.prog 30 [(cInt .i64).enc x, (cInt .i64).enc low, (cInt .i64).enc high] (cBool.enc (impl_within x low high)) :=
  givesT hmix [] 0 none Try.func30 rfl rfl ((by kernel_rfl : run1 Try.prog (tab []) 0 none noL Try.f30 [(cInt .i64).enc x, (cInt .i64).enc low, (cInt .i64).enc high] [] = impl_within.t x low high fun r => some (cBool.enc r, [])).trans (impl_within.t_eq x low high _))
def impl_within.e : Entry Try.prog := entry3 (cInt .i64) (cInt .i64) (cInt .i64) cBool 30 impl_within impl_within.gives

/-! ### impl.ValidPoint -/
def impl_ValidPoint.t {ρ : Type} (p : Pt) (K : Bool → Option ρ) : Option ρ := bif (impl_within p.lat (-900000000) 900000000) then (bif decide (p.lon > (-1800000000)) then (K (decide (p.lon ≤ 1800000000))) else (K false)) else (K false)
theorem impl_ValidPoint.t_eq {ρ : Type} (p : Pt) (K : Bool → Option ρ) : impl_ValidPoint.t p K = K (impl_ValidPoint p) := cq (fun h0 => cq (fun h1 => rfl) (fun h1 => rfl)) (fun h0 => rfl)
theorem impl_ValidPoint.gives (p : Pt) : GivesV Try.prog 37 [cPt.enc p] (cBool.enc (impl_ValidPoint p)) :=
  givesT hmix [impl_within.e] 0 none Try.func37 rfl rfl ((by kernel_rfl : run1 Try.prog (tab [impl_within.e]) 0 none noL Try.f37 [cPt.enc p] [] = impl_ValidPoint.t p fun r => some (cBool.enc r, [])).trans (impl_ValidPoint.t_eq p _))
def impl_ValidPoint.e : Entry Try.prog := entry1 cPt cBool 37 impl_ValidPoint impl_ValidPoint.gives

/-! ### impl.WrapLon -/
def impl_WrapLon.t {ρ : Type} (n : Int) (K : Int → Option ρ) : Option ρ := bif decide ((Int.tmod n 3600000000) > 1800000000) then (K (w64 ((Int.tmod n 3600000000) - 3600000000))) else (bif decide ((Int.tmod n 3600000000) ≤ (-1800000000)) then (K (w64 ((Int.tmod n 3600000000) + 3600000000))) else (K (Int.tmod n 3600000000)))
theorem impl_WrapLon.t_eq {ρ : Type} (n : Int) (K : Int → Option ρ) : impl_WrapLon.t n K = K (impl_WrapLon n) := cq (fun h0 => rfl) (fun h0 => cq (fun h1 => rfl) (fun h1 => rfl))
theorem impl_WrapLon.gives (n : Int) : GivesV Try.prog 36 [(cInt .i64).enc n] ((cInt .i64).enc (impl_WrapLon n)) :=
  givesT hmix [] 0 none Try.func36 rfl rfl ((by kernel_rfl : run1 Try.prog (tab []) 0 none noL Try.f36 [(cInt .i64).enc n] [] = impl_WrapLon.t n fun r => some ((cInt .i64).enc r, [])).trans (impl_WrapLon.t_eq n _))
def impl_WrapLon.e : Entry Try.prog := entry1 (cInt .i64) (cInt .i64) 36 impl_WrapLon impl_WrapLon.gives

/-! ### impl.areValid -/
def impl_areValid.t {ρ : Type} (p : Pt) (q : Pt) (K : Bool → Option ρ) : Option ρ := bif (impl_ValidPoint p) then (K (impl_ValidPoint q)) else (K false)
theorem impl_areValid.t_eq {ρ : Type} (p : Pt) (q : Pt) (K : Bool → Option ρ) : impl_areValid.t p q K = K (impl_areValid p q) := cq (fun h0 => rfl) (fun h0 => rfl)
theorem impl_areValid.gives (p : Pt) (q : Pt) : GivesV Try.prog 33 [cPt.enc p, cPt.enc q] (cBool.enc (impl_areValid p q)) :=
  givesT hmix [impl_ValidPoint.e] 0 none Try.func33 rfl rfl ((by kernel_rfl : run1 Try.prog (tab [impl_ValidPoint.e]) 0 none noL Try.f33 [cPt.enc p, cPt.enc q] [] = impl_areValid.t p q fun r => some (cBool.enc r, [])).trans (impl_areValid.t_eq p q _))
def impl_areValid.e : Entry Try.prog := entry2 cPt cPt cBool 33 impl_areValid impl_areValid.gives

/-! ### spec.LonBetween -/
def spec_LonBetween.t {ρ : Type} (p : Pt) (q : Pt) (K : (Int × Int) → Option ρ) : Option ρ := bif (!(spec_l11Ok p)) then (K (0, 1)) else (bif (!(spec_l11Ok q)) then (K (0, 1)) else (K ((spec_l11Wrap (w64 (q.lon - p.lon))), 0)))
theorem spec_LonBetween.t_eq {ρ : Type} (p : Pt) (q : Pt) (K : (Int × Int) → Option ρ) : spec_LonBetween.t p q K = K (spec_LonBetween p q) := cq (fun h0 => rfl) (fun h0 => cq (fun h1 => rfl) (fun h1 => rfl))
theorem spec_LonBetween.gives (p : Pt) (q : Pt) : GivesV Try.prog 16 [cPt.enc p, cPt.enc q] ((cT2 (cInt .i64) (cInt .i64)).enc (spec_LonBetween p q)) :=
  givesT hmix [spec_l11Ok.e, spec_l11Wrap.e] 0 none Try.func16 rfl rfl ((by kernel_rfl : run1 Try.prog (tab [spec_l11Ok.e, spec_l11Wrap.e]) 0 none noL Try.f16 [cPt.enc p, cPt.enc q] [] = spec_LonBetween.t p q fun r => some ((cT2 (cInt .i64) (cInt .i64)).enc r, [])).trans (spec_LonBetween.t_eq p q _))
def spec_LonBetween.e : Entry Try.prog := entry2 cPt cPt (cT2 (cInt .i64) (cInt .i64)) 16 spec_LonBetween spec_LonBetween.gives

/-! ### impl.LonBetween -/
def impl_LonBetween.t {ρ : Type} (p : Pt) (q : Pt) (K : (Int × Int) → Option ρ) : Option ρ := bif (!(impl_areValid p q)) then (K (0, 1)) else (K ((impl_WrapLon (w64 (q.lon - p.lon))), 0))
theorem impl_LonBetween.t_eq {ρ : Type} (p : Pt) (q : Pt) (K : (Int × Int) → Option ρ) : impl_LonBetween.t p q K = K (impl_LonBetween p q) := cq (fun h0 => rfl) (fun h0 => rfl)
theorem impl_LonBetween.gives (p : Pt) (q : Pt) : GivesV Try.prog 17 [cPt.enc p, cPt.enc q] ((cT2 (cInt .i64) (cInt .i64)).enc (impl_LonBetween p q)) :=
  givesT hmix [impl_areValid.e, impl_WrapLon.e] 0 none Try.func17 rfl rfl ((by kernel_rfl : run1 Try.prog (tab [impl_areValid.e, impl_WrapLon.e]) 0 none noL Try.f17 [cPt.enc p, cPt.enc q] [] = impl_LonBetween.t p q fun r => some ((cT2 (cInt .i64) (cInt .i64)).enc r, [])).trans (impl_LonBetween.t_eq p q _))
def impl_LonBetween.e : Entry Try.prog := entry2 cPt cPt (cT2 (cInt .i64) (cInt .i64)) 17 impl_LonBetween impl_LonBetween.gives

/-! ### laws.FnExactLonBetween -/
def laws_FnExactLonBetween.t {ρ : Type} (aP : Pt) (aQ : Pt) (K : Bool → Option ρ) : Option ρ := let t3 := (spec_LonBetween (laws_toPoint aP) (laws_toPoint aQ)); let t6 := (impl_LonBetween (laws_toPoint aP) (laws_toPoint aQ)); bif (t6.1 != t3.1) then (K false) else (bif (t6.2 != t3.2) then (K false) else (K true))
theorem laws_FnExactLonBetween.t_eq {ρ : Type} (aP : Pt) (aQ : Pt) (K : Bool → Option ρ) : laws_FnExactLonBetween.t aP aQ K = K (laws_FnExactLonBetween aP aQ) := cq (fun h0 => rfl) (fun h0 => cq (fun h1 => rfl) (fun h1 => rfl))
theorem laws_FnExactLonBetween.gives (aP : Pt) (aQ : Pt) : GivesV Try.prog 5 [cPt.enc aP, cPt.enc aQ] (cBool.enc (laws_FnExactLonBetween aP aQ)) :=
  givesT hmix [laws_toPoint.e, spec_LonBetween.e, impl_LonBetween.e] 0 none Try.func5 rfl rfl ((by kernel_rfl : run1 Try.prog (tab [laws_toPoint.e, spec_LonBetween.e, impl_LonBetween.e]) 0 none noL Try.f5 [cPt.enc aP, cPt.enc aQ] [] = laws_FnExactLonBetween.t aP aQ fun r => some (cBool.enc r, [])).trans (laws_FnExactLonBetween.t_eq aP aQ _))
def laws_FnExactLonBetween.e : Entry Try.prog := entry2 cPt cPt cBool 5 laws_FnExactLonBetween laws_FnExactLonBetween.gives

end Go.Proofs.Ytgleficokgjmoaa
