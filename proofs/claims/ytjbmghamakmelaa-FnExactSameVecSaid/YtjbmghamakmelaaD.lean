import Derived.Test.YtjbmghamakmelaaRxF
set_option linter.unusedVariables false
namespace Go.G880
open Go Go.RX
def laws_toInterval (a : Iv) : Iv := a
def laws_toVec (a : V3) : V3 := (V3.mk (laws_toInterval a.x) (laws_toInterval a.y) (laws_toInterval a.z))
def spec_SameVec (a : V3) (b : V3) : Bool := (((a.x.lo == b.x.lo) && (a.x.hi == b.x.hi)) && (((a.y.lo == b.y.lo) && (a.y.hi == b.y.hi)) && ((a.z.lo == b.z.lo) && (a.z.hi == b.z.hi))))
def impl_SameVec (a : V3) (b : V3) : Bool := (((a.x.lo == b.x.lo) && (a.x.hi == b.x.hi)) && (((a.y.lo == b.y.lo) && (a.y.hi == b.y.hi)) && ((a.z.lo == b.z.lo) && (a.z.hi == b.z.hi))))
def laws_FnExactSameVec (aA : V3) (aB : V3) : Bool := bif (!((impl_SameVec (laws_toVec aA) (laws_toVec aB)) == (spec_SameVec (laws_toVec aA) (laws_toVec aB)))) then false else true
def laws_toPoint (a : Pt) : Pt := a
def spec_l00In (n : Int) (low : Int) (high : Int) : Bool := bif decide (n ≥ low) then (decide (n ≤ high)) else false
def spec_l11Ok (p : Pt) : Bool := bif (spec_l00In p.lat (-900000000) 900000000) then ((spec_l00In p.lon (-1799999999) 1800000000)) else false
def spec_ValidPoint (p : Pt) : Bool := (spec_l11Ok p)
def impl_within (x : Int) (low : Int) (high : Int) : Bool := bif decide (x ≥ low) then (decide (x ≤ high)) else false
def impl_ValidPoint (p : Pt) : Bool := bif (impl_within p.lat (-900000000) 900000000) then (bif decide (p.lon > (-1800000000)) then (decide (p.lon ≤ 1800000000)) else false) else false
def laws_FnExactValidPoint (aP : Pt) : Bool := bif (!((impl_ValidPoint (laws_toPoint aP)) == (spec_ValidPoint (laws_toPoint aP)))) then false else true
def laws_toEllipsoid (a : El) : El := a
def spec_l12Ok (e_0 : El) : Bool := bif (spec_l00In e_0.a 1000 100000000000) then (bif (spec_l00In e_0.den 1 1000000000000) then (bif decide (e_0.num ≥ 0) then (decide (e_0.num ≤ (w64 (Int.tdiv e_0.den 100)))) else false) else false) else false
def spec_ValidEllipsoid (e_0 : El) : Bool := (spec_l12Ok e_0)
def impl_ValidEllipsoid (e_0 : El) : Bool := bif (impl_within e_0.a 1000 100000000000) then (bif (impl_within e_0.den 1 1000000000000) then ((impl_within e_0.num 0 (w64 (Int.tdiv e_0.den 100)))) else false) else false
def laws_FnExactValidEllipsoid (aE : El) : Bool := bif (!((impl_ValidEllipsoid (laws_toEllipsoid aE)) == (spec_ValidEllipsoid (laws_toEllipsoid aE)))) then false else true
def spec_l12Wgs : El := (El.mk 6378137000 1000000000 298257223563)
def spec_Wgs : El := spec_l12Wgs
def impl_Wgs : El := (El.mk 6378137000 1000000000 298257223563)
def laws_eqEllipsoid (a : El) (b : El) : Bool := bif (a.a != b.a) then false else (bif (a.num != b.num) then false else (bif (a.den != b.den) then false else true))
def laws_FnExactWgs : Bool := bif (!(laws_eqEllipsoid impl_Wgs spec_Wgs)) then false else true
def spec_l11Wrap (n : Int) : Int := bif decide ((Int.tmod n 3600000000) > 1800000000) then (bif decide ((w64 ((Int.tmod n 3600000000) - 3600000000)) ≤ (-1800000000)) then ((w64 ((w64 ((Int.tmod n 3600000000) - 3600000000)) + 3600000000))) else ((w64 ((Int.tmod n 3600000000) - 3600000000)))) else (bif decide ((Int.tmod n 3600000000) ≤ (-1800000000)) then ((w64 ((Int.tmod n 3600000000) + 3600000000))) else ((Int.tmod n 3600000000)))
def spec_WrapLon (n : Int) : Int := (spec_l11Wrap n)
def impl_WrapLon (n : Int) : Int := bif decide ((Int.tmod n 3600000000) > 1800000000) then ((w64 ((Int.tmod n 3600000000) - 3600000000))) else (bif decide ((Int.tmod n 3600000000) ≤ (-1800000000)) then ((w64 ((Int.tmod n 3600000000) + 3600000000))) else ((Int.tmod n 3600000000)))
def laws_FnExactWrapLon (aN : Int) : Bool := bif ((impl_WrapLon aN) != (spec_WrapLon aN)) then false else true
end Go.G880
