/- The machine walks the functions that FnExactSamePlace reaches as the plain functions say. -/
import Derived.Test.YtgleficokgjmoaaProg
import Derived.Test.YtgleficokgjmoaaP2
set_option linter.unusedVariables false
set_option linter.unusedSimpArgs false
set_option maxRecDepth 100000
namespace Go.Proofs.Ytgleficokgjmoaa
open Go Go.RX Go.G880 Go.Proofs
theorem hmix : Try.prog.follows .mixedOrders = true := by kernel_rfl
/-! ### laws.toPoint -/
def laws_toPoint.t {ρ : Type} (a : Pt) (K : Pt → Option ρ) : Option ρ := K a
theorem laws_toPoint.t_eq {ρ : Type} (a : Pt) (K : Pt → Option ρ) : laws_toPoint.t a K = K (laws_toPoint a) := rfl
theorem laws_toPoint.gives (a : Pt) : GivesV Try.prog 14 [cPt.enc a] (cPt.enc (laws_toPoint a)) :=
  givesT hmix [] 0 none Try.func14 rfl rfl ((by kernel_rfl : run1 Try.prog (tab []) 0 none noL Try.f14 [cPt.enc a] [] = laws_toPoint.t a fun r => some (cPt.enc r, [])).trans (laws_toPoint.t_eq a _))
def laws_toPoint.e : Entry Try.prog := entry1 cPt cPt 14 laws_toPoint laws_toPoint.gives

/-! ### spec.l00In -/
def spec_l00In.t {ρ : Type} (n : Int) (low : Int) (high : Int) (K : Bool → Option ρ) : Option ρ := bif decide (n ≥ low) then (K (decide (n ≤ high))) else (K false)
theorem spec_l00In.t_eq {ρ : Type} (n : Int) (low : Int) (high : Int) (K : Bool → Option ρ) : spec_l00In.t n low high K = K (spec_l00In n low high) := cq (fun h0 => rfl) (fun h0 => rfl)
theorem spec_l00In.gives (n : Int) (low : Int) (high : Int) : GivesV Try.prog 46 [(cInt .i64).enc n, (cInt .i64).enc low, (cInt .i64).enc high] (cBool.enc (spec_l00In n low high)) :=
  givesT hmix [] 0 none Try.func46 rfl rfl ((by kernel_rfl : run1 Try.prog (tab []) 0 none noL Try.f46 [(cInt .i64).enc n, (cInt .i64).enc low, (cInt .i64).enc high] [] = spec_l00In.t n low high fun r => some (cBool.enc r, [])).trans (spec_l00In.t_eq n low high _))
def spec_l00In.e : Entry Try.prog := entry3 (cInt .i64) (cInt .i64) (cInt .i64) cBool 46 spec_l00In spec_l00In.gives

/-! ### spec.l11Ok -/
def spec_l11Ok.t {ρ : Type} (p : Pt) (K : Bool → Option ρ) : Option ρ := bif (spec_l00In p.lat (-900000000) 900000000) then (K (spec_l00In p.lon (-1799999999) 1800000000)) else (K false)
theorem spec_l11Ok.t_eq {ρ : Type} (p : Pt) (K : Bool → Option ρ) : spec_l11Ok.t p K = K (spec_l11Ok p) := cq (fun h0 => rfl) (fun h0 => rfl)
theorem spec_l11Ok.gives (p : Pt) : GivesV Try.prog 31 [cPt.enc p] (cBool.enc (spec_l11Ok p)) :=
  givesT hmix [spec_l00In.e] 0 none Try.func31 rfl rfl ((by kernel_rfl : run1 Try.prog (tab [spec_l00In.e]) 0 none noL Try.f31 [cPt.enc p] [] = spec_l11Ok.t p fun r => some (cBool.enc r, [])).trans (spec_l11Ok.t_eq p _))
def spec_l11Ok.e : Entry Try.prog := entry1 cPt cBool 31 spec_l11Ok spec_l11Ok.gives

/-! ### impl.within -/
def impl_within.t {ρ : Type} (x : Int) (low : Int) (high : Int) (K : Bool → Option ρ) : Option ρ := bif decide (x ≥ low) then (K (decide (x ≤ high))) else (K false)
theorem impl_within.t_eq {ρ : Type} (x : Int) (low : Int) (high : Int) (K : Bool → Option ρ) : impl_within.t x low high K = K (impl_within x low high) := cq (fun h0 => rfl) (fun h0 => rfl)
theorem impl_within.gives (x : Int) (low : Int) (high : Int) : GivesV Try.prog 30 [(cInt .i64).enc x, (cInt .i64).enc low, (cInt .i64).enc high] (cBool.enc (impl_within x low high)) :=
  givesT hmix [] 0 none Try.func30 rfl rfl ((by kernel_rfl : run1 Try.prog (tab []) 0 none noL Try.f30 [(cInt .i64).enc x, (cInt .i64).enc low, (cInt .i64).enc high] [] = impl_within.t x low high fun r => some (cBool.enc r, [])).trans (impl_within.t_eq x low high _))
def impl_within.e : Entry Try.prog := entry3 (cInt .i64) (cInt .i64) (cInt .i64) cBool 30 impl_within impl_within.gives

/-! ### impl.ValidPoint -/
def impl_ValidPoint.t {ρ : Type} (p : Pt) (K : Bool → Option ρ) : Option ρ := bif (impl_within p.lat (-900000000) 900000000) then (bif decide (p.lon > (-1800000000)) then (K (decide (p.lon ≤ 1800000000))) else (K false)) else (K false)
theorem impl_ValidPoint.t_eq {ρ : Type} (p : Pt) (K : Bool → Option ρ) : impl_ValidPoint.t p K = K (impl_ValidPoint p) := cq (fun h0 => cq (fun h1 => rfl) (fun h1 => rfl)) (fun h0 => rfl)
theorem impl_ValidPoint.gives (p : Pt) : GivesV Try.prog 37 [cPt.enc p] (cBool.enc (impl_ValidPoint p)) :=
  givesT hmix [impl_within.e] 0 none Try.func37 rfl rfl ((by kernel_rfl : run1 Try.prog (tab [impl_within.e]) 0 none noL Try.f37 [cPt.enc p] [] = impl_ValidPoint.t p fun r => some (cBool.enc r, [])).trans (impl_ValidPoint.t_eq p _))
def impl_ValidPoint.e : Entry Try.prog := entry1 cPt cBool 37 impl_ValidPoint impl_ValidPoint.gives

/-! ### spec.l11Pole -/
def spec_l11Pole.t {ρ : Type} (p : Pt) (K : Bool → Option ρ) : Option ρ := bif (p.lat == 900000000) then (K true) else (K (p.lat == (-900000000)))
theorem spec_l11Pole.t_eq {ρ : Type} (p : Pt) (K : Bool → Option ρ) : spec_l11Pole.t p K = K (spec_l11Pole p) := cq (fun h0 => rfl) (fun h0 => rfl)
theorem spec_l11Pole.gives (p : Pt) : GivesV Try.prog 32 [cPt.enc p] (cBool.enc (spec_l11Pole p)) :=
  givesT hmix [] 0 none Try.func32 rfl rfl ((by kernel_rfl : run1 Try.prog (tab []) 0 none noL Try.f32 [cPt.enc p] [] = spec_l11Pole.t p fun r => some (cBool.enc r, [])).trans (spec_l11Pole.t_eq p _))
def spec_l11Pole.e : Entry Try.prog := entry1 cPt cBool 32 spec_l11Pole spec_l11Pole.gives

/-! ### spec.SamePlace -/
def spec_SamePlace.t {ρ : Type} (p : Pt) (q : Pt) (K : (Bool × Int) → Option ρ) : Option ρ := bif (!(spec_l11Ok p)) then (K (false, 1)) else (bif (!(spec_l11Ok q)) then (K (false, 1)) else (bif ((p.lat == q.lat) && (p.lon == q.lon)) then (K (true, 0)) else (bif (p.lat == q.lat) then (K ((spec_l11Pole p), 0)) else (K (false, 0)))))
theorem spec_SamePlace.t_eq {ρ : Type} (p : Pt) (q : Pt) (K : (Bool × Int) → Option ρ) : spec_SamePlace.t p q K = K (spec_SamePlace p q) := cq (fun h0 => rfl) (fun h0 => cq (fun h1 => rfl) (fun h1 => cq (fun h2 => rfl) (fun h2 => cq (fun h3 => rfl) (fun h3 => rfl))))
theorem spec_SamePlace.gives (p : Pt) (q : Pt) : GivesV Try.prog 13 [cPt.enc p, cPt.enc q] ((cT2 cBool (cInt .i64)).enc (spec_SamePlace p q)) :=
  givesT hmix [spec_l11Ok.e, spec_l11Pole.e] 0 none Try.func13 rfl rfl ((by kernel_rfl : run1 Try.prog (tab [spec_l11Ok.e, spec_l11Pole.e]) 0 none noL Try.f13 [cPt.enc p, cPt.enc q] [] = spec_SamePlace.t p q fun r => some ((cT2 cBool (cInt .i64)).enc r, [])).trans (spec_SamePlace.t_eq p q _))
def spec_SamePlace.e : Entry Try.prog := entry2 cPt cPt (cT2 cBool (cInt .i64)) 13 spec_SamePlace spec_SamePlace.gives

/-! ### impl.areValid -/
def impl_areValid.t {ρ : Type} (p : Pt) (q : Pt) (K : Bool → Option ρ) : Option ρ := bif (impl_ValidPoint p) then (K (impl_ValidPoint q)) else (K false)
theorem impl_areValid.t_eq {ρ : Type} (p : Pt) (q : Pt) (K : Bool → Option ρ) : impl_areValid.t p q K = K (impl_areValid p q) := cq (fun h0 => rfl) (fun h0 => rfl)
theorem impl_areValid.gives (p : Pt) (q : Pt) : GivesV Try.prog 33 [cPt.enc p, cPt.enc q] (cBool.enc (impl_areValid p q)) :=
  givesT hmix [impl_ValidPoint.e] 0 none Try.func33 rfl rfl ((by kernel_rfl : run1 Try.prog (tab [impl_ValidPoint.e]) 0 none noL Try.f33 [cPt.enc p, cPt.enc q] [] = impl_areValid.t p q fun r => some (cBool.enc r, [])).trans (impl_areValid.t_eq p q _))
def impl_areValid.e : Entry Try.prog := entry2 cPt cPt cBool 33 impl_areValid impl_areValid.gives

/-! ### impl.abs -/
def impl_abs.t {ρ : Type} (x : Int) (K : Int → Option ρ) : Option ρ := K (mxI x (w64 (0 - x)))
theorem impl_abs.t_eq {ρ : Type} (x : Int) (K : Int → Option ρ) : impl_abs.t x K = K (impl_abs x) := rfl
theorem impl_abs.gives (x : Int) : GivesV Try.prog 57 [(cInt .i64).enc x] ((cInt .i64).enc (impl_abs x)) :=
  givesT hmix [] 0 none Try.func57 rfl rfl ((by kernel_rfl : run1 Try.prog (tab []) 0 none noL Try.f57 [(cInt .i64).enc x] [] = impl_abs.t x fun r => some ((cInt .i64).enc r, [])).trans (impl_abs.t_eq x _))
def impl_abs.e : Entry Try.prog := entry1 (cInt .i64) (cInt .i64) 57 impl_abs impl_abs.gives

/-! ### impl.isPole -/
def impl_isPole.t {ρ : Type} (p : Pt) (K : Bool → Option ρ) : Option ρ := K ((impl_abs p.lat) == 900000000)
theorem impl_isPole.t_eq {ρ : Type} (p : Pt) (K : Bool → Option ρ) : impl_isPole.t p K = K (impl_isPole p) := rfl
theorem impl_isPole.gives (p : Pt) : GivesV Try.prog 47 [cPt.enc p] (cBool.enc (impl_isPole p)) :=
  givesT hmix [impl_abs.e] 0 none Try.func47 rfl rfl ((by kernel_rfl : run1 Try.prog (tab [impl_abs.e]) 0 none noL Try.f47 [cPt.enc p] [] = impl_isPole.t p fun r => some (cBool.enc r, [])).trans (impl_isPole.t_eq p _))
def impl_isPole.e : Entry Try.prog := entry1 cPt cBool 47 impl_isPole impl_isPole.gives

/-! ### impl.samePlace -/
def impl_samePlace.t {ρ : Type} (p : Pt) (q : Pt) (K : Bool → Option ρ) : Option ρ := bif ((p.lat == q.lat) && (p.lon == q.lon)) then (K true) else (bif (impl_isPole p) then (K (p.lat == q.lat)) else (K false))
theorem impl_samePlace.t_eq {ρ : Type} (p : Pt) (q : Pt) (K : Bool → Option ρ) : impl_samePlace.t p q K = K (impl_samePlace p q) := cq (fun h0 => rfl) (fun h0 => cq (fun h1 => rfl) (fun h1 => rfl))
theorem impl_samePlace.gives (p : Pt) (q : Pt) : GivesV Try.prog 34 [cPt.enc p, cPt.enc q] (cBool.enc (impl_samePlace p q)) :=
  givesT hmix [impl_isPole.e] 0 none Try.func34 rfl rfl ((by kernel_rfl : run1 Try.prog (tab [impl_isPole.e]) 0 none noL Try.f34 [cPt.enc p, cPt.enc q] [] = impl_samePlace.t p q fun r => some (cBool.enc r, [])).trans (impl_samePlace.t_eq p q _))
def impl_samePlace.e : Entry Try.prog := entry2 cPt cPt cBool 34 impl_samePlace impl_samePlace.gives

/-! ### impl.SamePlace -/
def impl_SamePlace.t {ρ : Type} (p : Pt) (q : Pt) (K : (Bool × Int) → Option ρ) : Option ρ := bif (!(impl_areValid p q)) then (K (false, 1)) else (K ((impl_samePlace p q), 0))
theorem impl_SamePlace.t_eq {ρ : Type} (p : Pt) (q : Pt) (K : (Bool × Int) → Option ρ) : impl_SamePlace.t p q K = K (impl_SamePlace p q) := cq (fun h0 => rfl) (fun h0 => rfl)
theorem impl_SamePlace.gives (p : Pt) (q : Pt) : GivesV Try.prog 15 [cPt.enc p, cPt.enc q] ((cT2 cBool (cInt .i64)).enc (impl_SamePlace p q)) :=
  givesT hmix [impl_areValid.e, impl_samePlace.e] 0 none Try.func15 rfl rfl ((by kernel_rfl : run1 Try.prog (tab [impl_areValid.e, impl_samePlace.e]) 0 none noL Try.f15 [cPt.enc p, cPt.enc q] [] = impl_SamePlace.t p q fun r => some ((cT2 cBool (cInt .i64)).enc r, [])).trans (impl_SamePlace.t_eq p q _))
def impl_SamePlace.e : Entry Try.prog := entry2 cPt cPt (cT2 cBool (cInt .i64)) 15 impl_SamePlace impl_SamePlace.gives

/-! ### laws.FnExactSamePlace -/
def laws_FnExactSamePlace.t {ρ : Type} (aP : Pt) (aQ : Pt) (K : Bool → Option ρ) : Option ρ := let t3 := (spec_SamePlace (laws_toPoint aP) (laws_toPoint aQ)); let t6 := (impl_SamePlace (laws_toPoint aP) (laws_toPoint aQ)); bif (!(t6.1 == t3.1)) then (K false) else (bif (t6.2 != t3.2) then (K false) else (K true))
theorem laws_FnExactSamePlace.t_eq {ρ : Type} (aP : Pt) (aQ : Pt) (K : Bool → Option ρ) : laws_FnExactSamePlace.t aP aQ K = K (laws_FnExactSamePlace aP aQ) := cq (fun h0 => rfl) (fun h0 => cq (fun h1 => rfl) (fun h1 => rfl))
theorem laws_FnExactSamePlace.gives (aP : Pt) (aQ : Pt) : GivesV Try.prog 4 [cPt.enc aP, cPt.enc aQ] (cBool.enc (laws_FnExactSamePlace aP aQ)) :=
  givesT hmix [laws_toPoint.e, spec_SamePlace.e, impl_SamePlace.e] 0 none Try.func4 rfl rfl ((by kernel_rfl : run1 Try.prog (tab [laws_toPoint.e, spec_SamePlace.e, impl_SamePlace.e]) 0 none noL Try.f4 [cPt.enc aP, cPt.enc aQ] [] = laws_FnExactSamePlace.t aP aQ fun r => some (cBool.enc r, [])).trans (laws_FnExactSamePlace.t_eq aP aQ _))
def laws_FnExactSamePlace.e : Entry Try.prog := entry2 cPt cPt cBool 4 laws_FnExactSamePlace laws_FnExactSamePlace.gives

end Go.Proofs.Ytgleficokgjmoaa
