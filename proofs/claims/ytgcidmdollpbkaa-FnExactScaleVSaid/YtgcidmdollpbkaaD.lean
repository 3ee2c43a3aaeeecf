/- The Go functions as plain Lean functions: numbers, texts and structs, no memory. -/
import Derived.Test.YtgcidmdollpbkaaRxF
import Derived.Lib.BitFns
set_option linter.unusedVariables false
namespace Go.G880
open Go Go.RX
def laws_toInterval (a : Iv) : Iv := a
def laws_toVec (a : V3) : V3 := (V3.mk (laws_toInterval a.x) (laws_toInterval a.y) (laws_toInterval a.z))
def spec_SameVec (a : V3) (b : V3) : Bool := (((a.x.lo == b.x.lo) && (a.x.hi == b.x.hi)) && (((a.y.lo == b.y.lo) && (a.y.hi == b.y.hi)) && ((a.z.lo == b.z.lo) && (a.z.hi == b.z.hi))))
def impl_SameVec (a : V3) (b : V3) : Bool := (((a.x.lo == b.x.lo) && (a.x.hi == b.x.hi)) && (((a.y.lo == b.y.lo) && (a.y.hi == b.y.hi)) && ((a.z.lo == b.z.lo) && (a.z.hi == b.z.hi))))
def laws_FnExactSameVec (aA : V3) (aB : V3) : Bool := bif (!((impl_SameVec (laws_toVec aA) (laws_toVec aB)) == (spec_SameVec (laws_toVec aA) (laws_toVec aB)))) then false else true
def laws_toPoint (a : Pt) : Pt := a
def spec_l00In (n : Int) (low : Int) (high : Int) : Bool := bif decide (n ≥ low) then (decide (n ≤ high)) else false
def spec_l11Ok (p : Pt) : Bool := bif (spec_l00In p.lat (-900000000) 900000000) then ((spec_l00In p.lon (-1799999999) 1800000000)) else false
def spec_ValidPoint (p : Pt) : Bool := (spec_l11Ok p)
def impl_within (x : Int) (low : Int) (high : Int) : Bool := bif decide (x ≥ low) then (decide (x ≤ high)) else false
def impl_ValidPoint (p : Pt) : Bool := bif (impl_within p.lat (-900000000) 900000000) then (bif decide (p.lon > (-1800000000)) then (decide (p.lon ≤ 1800000000)) else false) else false
def laws_FnExactValidPoint (aP : Pt) : Bool := bif (!((impl_ValidPoint (laws_toPoint aP)) == (spec_ValidPoint (laws_toPoint aP)))) then false else true
def laws_toEllipsoid (a : El) : El := a
def spec_l12Ok (e_0 : El) : Bool := bif (spec_l00In e_0.a 1000 100000000000) then (bif (spec_l00In e_0.den 1 1000000000000) then (bif decide (e_0.num ≥ 0) then (decide (e_0.num ≤ (w64 (Int.tdiv e_0.den 100)))) else false) else false) else false
def spec_ValidEllipsoid (e_0 : El) : Bool := (spec_l12Ok e_0)
def impl_ValidEllipsoid (e_0 : El) : Bool := bif (impl_within e_0.a 1000 100000000000) then (bif (impl_within e_0.den 1 1000000000000) then ((impl_within e_0.num 0 (w64 (Int.tdiv e_0.den 100)))) else false) else false
def laws_FnExactValidEllipsoid (aE : El) : Bool := bif (!((impl_ValidEllipsoid (laws_toEllipsoid aE)) == (spec_ValidEllipsoid (laws_toEllipsoid aE)))) then false else true
def spec_l12Wgs : El := (El.mk 6378137000 1000000000 298257223563)
def spec_Wgs : El := spec_l12Wgs
def impl_Wgs : El := (El.mk 6378137000 1000000000 298257223563)
def laws_eqEllipsoid (a : El) (b : El) : Bool := bif (a.a != b.a) then false else (bif (a.num != b.num) then false else (bif (a.den != b.den) then false else true))
def laws_FnExactWgs : Bool := bif (!(laws_eqEllipsoid impl_Wgs spec_Wgs)) then false else true
def spec_l11Wrap (n : Int) : Int := bif decide ((Int.tmod n 3600000000) > 1800000000) then (bif decide ((w64 ((Int.tmod n 3600000000) - 3600000000)) ≤ (-1800000000)) then ((w64 ((w64 ((Int.tmod n 3600000000) - 3600000000)) + 3600000000))) else ((w64 ((Int.tmod n 3600000000) - 3600000000)))) else (bif decide ((Int.tmod n 3600000000) ≤ (-1800000000)) then ((w64 ((Int.tmod n 3600000000) + 3600000000))) else ((Int.tmod n 3600000000)))
def spec_WrapLon (n : Int) : Int := (spec_l11Wrap n)
def impl_WrapLon (n : Int) : Int := bif decide ((Int.tmod n 3600000000) > 1800000000) then ((w64 ((Int.tmod n 3600000000) - 3600000000))) else (bif decide ((Int.tmod n 3600000000) ≤ (-1800000000)) then ((w64 ((Int.tmod n 3600000000) + 3600000000))) else ((Int.tmod n 3600000000)))
def laws_FnExactWrapLon (aN : Int) : Bool := bif ((impl_WrapLon aN) != (spec_WrapLon aN)) then false else true
def spec_SphereOf (a : Int) : (El × Int) := bif (!(spec_l12Ok (El.mk a 0 1))) then (((El.mk 0 0 0), 2)) else (((El.mk a 0 1), 0))
def impl_SphereOf (a : Int) : (El × Int) := bif (!(impl_within a 1000 100000000000)) then (((El.mk 0 0 0), 2)) else (((El.mk a 0 1), 0))
def laws_FnExactSphereOf (aA : Int) : Bool := let t1 := (spec_SphereOf aA); let t2 := (impl_SphereOf aA); bif (!(laws_eqEllipsoid t2.1 t1.1)) then false else (bif (t2.2 != t1.2) then false else true)
def spec_l11Pole (p : Pt) : Bool := bif (p.lat == 900000000) then true else ((p.lat == (-900000000)))
def spec_SamePlace (p : Pt) (q : Pt) : (Bool × Int) := bif (!(spec_l11Ok p)) then ((false, 1)) else (bif (!(spec_l11Ok q)) then ((false, 1)) else (bif ((p.lat == q.lat) && (p.lon == q.lon)) then ((true, 0)) else (bif (p.lat == q.lat) then (((spec_l11Pole p), 0)) else ((false, 0)))))
def impl_areValid (p : Pt) (q : Pt) : Bool := bif (impl_ValidPoint p) then ((impl_ValidPoint q)) else false
def impl_abs (x : Int) : Int := (mxI x (w64 (0 - x)))
def impl_isPole (p : Pt) : Bool := ((impl_abs p.lat) == 900000000)
def impl_samePlace (p : Pt) (q : Pt) : Bool := bif ((p.lat == q.lat) && (p.lon == q.lon)) then true else (bif (impl_isPole p) then ((p.lat == q.lat)) else false)
def impl_SamePlace (p : Pt) (q : Pt) : (Bool × Int) := bif (!(impl_areValid p q)) then ((false, 1)) else (((impl_samePlace p q), 0))
def laws_FnExactSamePlace (aP : Pt) (aQ : Pt) : Bool := let t3 := (spec_SamePlace (laws_toPoint aP) (laws_toPoint aQ)); let t6 := (impl_SamePlace (laws_toPoint aP) (laws_toPoint aQ)); bif (!(t6.1 == t3.1)) then false else (bif (t6.2 != t3.2) then false else true)
def spec_LonBetween (p : Pt) (q : Pt) : (Int × Int) := bif (!(spec_l11Ok p)) then ((0, 1)) else (bif (!(spec_l11Ok q)) then ((0, 1)) else (((spec_l11Wrap (w64 (q.lon - p.lon))), 0)))
def impl_LonBetween (p : Pt) (q : Pt) : (Int × Int) := bif (!(impl_areValid p q)) then ((0, 1)) else (((impl_WrapLon (w64 (q.lon - p.lon))), 0))
def laws_FnExactLonBetween (aP : Pt) (aQ : Pt) : Bool := let t3 := (spec_LonBetween (laws_toPoint aP) (laws_toPoint aQ)); let t6 := (impl_LonBetween (laws_toPoint aP) (laws_toPoint aQ)); bif (t6.1 != t3.1) then false else (bif (t6.2 != t3.2) then false else true)
def spec_Antipode (p : Pt) : (Pt × Int) := bif (!(spec_l11Ok p)) then (((Pt.mk 0 0), 1)) else (((Pt.mk (w64 (0 - p.lat)) (spec_l11Wrap (w64 (p.lon + 1800000000)))), 0))
def impl_Antipode (p : Pt) : (Pt × Int) := bif (!(impl_ValidPoint p)) then (((Pt.mk 0 0), 1)) else (((Pt.mk (w64 (0 - p.lat)) (impl_WrapLon (w64 (p.lon + 1800000000)))), 0))
def laws_eqPoint (a : Pt) (b : Pt) : Bool := bif (a.lat != b.lat) then false else (bif (a.lon != b.lon) then false else true)
def laws_FnExactAntipode (aP : Pt) : Bool := let t2 := (spec_Antipode (laws_toPoint aP)); let t4 := (impl_Antipode (laws_toPoint aP)); bif (!(laws_eqPoint t4.1 t2.1)) then false else (bif (t4.2 != t2.2) then false else true)
def spec_l04Ok (a : Iv) : Bool := bif decide ((-1152921504606846976) < a.lo) then (bif decide (a.lo ≤ a.hi) then (decide (a.hi < 1152921504606846976)) else false) else false
def spec_l04Whole : Iv := (Iv.mk (-1152921504606846976) 1152921504606846976)
def spec_l04Make (lo_0 : Int) (hi_1 : Int) : Iv := bif (!(spec_l04Ok (Iv.mk lo_0 hi_1))) then spec_l04Whole else ((Iv.mk lo_0 hi_1))
def spec_AddI (a : Iv) (b : Iv) : Iv := bif (!(spec_l04Ok a)) then spec_l04Whole else (bif (!(spec_l04Ok b)) then spec_l04Whole else ((spec_l04Make (w64 (a.lo + b.lo)) (w64 (a.hi + b.hi)))))
def spec_AddV (a : V3) (b : V3) : V3 := (V3.mk (spec_AddI a.x b.x) (spec_AddI a.y b.y) (spec_AddI a.z b.z))
def impl_ValidInterval (i : Iv) : Bool := bif decide ((-1152921504606846976) < i.lo) then (bif decide (i.lo ≤ i.hi) then (decide (i.hi < 1152921504606846976)) else false) else false
def impl_areBounded (a : Iv) (b : Iv) : Bool := bif (impl_ValidInterval a) then ((impl_ValidInterval b)) else false
def impl_Whole : Iv := (Iv.mk (-1152921504606846976) 1152921504606846976)
def impl_bounded (lo_0 : Int) (hi_1 : Int) (ok : Bool) : Iv := bif ok then (bif (impl_ValidInterval (Iv.mk lo_0 hi_1)) then ((Iv.mk lo_0 hi_1)) else impl_Whole) else impl_Whole
def impl_AddI (a : Iv) (b : Iv) : Iv := bif (!(impl_areBounded a b)) then impl_Whole else ((impl_bounded (w64 (a.lo + b.lo)) (w64 (a.hi + b.hi)) true))
def impl_AddV (a : V3) (b : V3) : V3 := (V3.mk (impl_AddI a.x b.x) (impl_AddI a.y b.y) (impl_AddI a.z b.z))
def laws_eqInterval (a : Iv) (b : Iv) : Bool := bif (a.lo != b.lo) then false else (bif (a.hi != b.hi) then false else true)
def laws_eqVec (a : V3) (b : V3) : Bool := bif (!(laws_eqInterval a.x b.x)) then false else (bif (!(laws_eqInterval a.y b.y)) then false else (bif (!(laws_eqInterval a.z b.z)) then false else true))
def laws_FnExactAddV (aA : V3) (aB : V3) : Bool := bif (!(laws_eqVec (impl_AddV (laws_toVec aA) (laws_toVec aB)) (spec_AddV (laws_toVec aA) (laws_toVec aB)))) then false else true
def spec_l00Max (a : Int) (b : Int) : Int := bif decide (a > b) then a else b
def spec_l00Min (a : Int) (b : Int) : Int := bif decide (a < b) then a else b
def spec_MeetI (a : Iv) (b : Iv) : (Iv × Bool) := bif (!(spec_l04Ok a)) then (bif (!(spec_l04Ok b)) then ((spec_l04Whole, true)) else (bif (!(spec_l04Ok a)) then ((b, true)) else (bif (!(spec_l04Ok b)) then ((a, true)) else (let t6 := (spec_l00Max a.lo b.lo); let t7 := (spec_l00Min a.hi b.hi); bif decide (t6 > t7) then (((Iv.mk 0 0), false)) else (((Iv.mk t6 t7), true)))))) else (bif (!(spec_l04Ok a)) then ((b, true)) else (bif (!(spec_l04Ok b)) then ((a, true)) else (let t10 := (spec_l00Max a.lo b.lo); let t11 := (spec_l00Min a.hi b.hi); bif decide (t10 > t11) then (((Iv.mk 0 0), false)) else (((Iv.mk t10 t11), true)))))
def spec_OverlapI (a : Iv) (b : Iv) : Bool := (spec_MeetI a b).2
def spec_OverlapV (a : V3) (b : V3) : Bool := bif (spec_OverlapI a.x b.x) then (bif (spec_OverlapI a.y b.y) then ((spec_OverlapI a.z b.z)) else false) else false
def impl_IsWhole (i : Iv) : Bool := (!(impl_ValidInterval i))
def impl_MeetI (a : Iv) (b : Iv) : (Iv × Bool) := bif (impl_IsWhole a) then (bif (impl_IsWhole b) then ((impl_Whole, true)) else (bif (impl_IsWhole a) then ((b, true)) else (bif (impl_IsWhole b) then ((a, true)) else (bif decide ((mxI a.lo b.lo) > (mnI a.hi b.hi)) then (((Iv.mk 0 0), false)) else (((Iv.mk (mxI a.lo b.lo) (mnI a.hi b.hi)), true)))))) else (bif (impl_IsWhole a) then ((b, true)) else (bif (impl_IsWhole b) then ((a, true)) else (bif decide ((mxI a.lo b.lo) > (mnI a.hi b.hi)) then (((Iv.mk 0 0), false)) else (((Iv.mk (mxI a.lo b.lo) (mnI a.hi b.hi)), true)))))
def impl_OverlapI (a : Iv) (b : Iv) : Bool := (impl_MeetI a b).2
def impl_OverlapV (a : V3) (b : V3) : Bool := bif (impl_OverlapI a.x b.x) then (bif (impl_OverlapI a.y b.y) then ((impl_OverlapI a.z b.z)) else false) else false
def laws_FnExactOverlapV (aA : V3) (aB : V3) : Bool := bif (!((impl_OverlapV (laws_toVec aA) (laws_toVec aB)) == (spec_OverlapV (laws_toVec aA) (laws_toVec aB)))) then false else true
def spec_SubI (a : Iv) (b : Iv) : Iv := bif (!(spec_l04Ok a)) then spec_l04Whole else (bif (!(spec_l04Ok b)) then spec_l04Whole else ((spec_l04Make (w64 (a.lo - b.hi)) (w64 (a.hi - b.lo)))))
def spec_SubV (a : V3) (b : V3) : V3 := (V3.mk (spec_SubI a.x b.x) (spec_SubI a.y b.y) (spec_SubI a.z b.z))
def impl_NegI (a : Iv) : Iv := bif (impl_IsWhole a) then impl_Whole else ((Iv.mk (w64 (0 - a.hi)) (w64 (0 - a.lo))))
def impl_SubI (a : Iv) (b : Iv) : Iv := (impl_AddI a (impl_NegI b))
def impl_SubV (a : V3) (b : V3) : V3 := (V3.mk (impl_SubI a.x b.x) (impl_SubI a.y b.y) (impl_SubI a.z b.z))
def laws_FnExactSubV (aA : V3) (aB : V3) : Bool := bif (!(laws_eqVec (impl_SubV (laws_toVec aA) (laws_toVec aB)) (spec_SubV (laws_toVec aA) (laws_toVec aB)))) then false else true
def spec_l03Ok (n : Int) : Bool := (spec_l00In n (-1152921504606846976) 1152921504606846976)
def spec_l02Size (n : Int) : Int := bif decide (n < 0) then ((u64 (0 - (u64 n)))) else ((u64 n))
def spec_l02Times (a : Int) (b : Int) : (Int × Int) := let x2 := (u64 ((u64 ((Int.fdiv a 4294967296) * (andI .u64 b 4294967295))) + (Int.fdiv (u64 ((andI .u64 a 4294967295) * (andI .u64 b 4294967295))) 4294967296))); ((u64 ((u64 ((u64 ((Int.fdiv a 4294967296) * (Int.fdiv b 4294967296))) + (Int.fdiv x2 4294967296))) + (Int.fdiv (u64 ((u64 ((andI .u64 a 4294967295) * (Int.fdiv b 4294967296))) + (andI .u64 x2 4294967295))) 4294967296))), (u64 (a * b)))
def spec_l02Minus (w : Wd) : Wd := bif (w.lo == 0) then ((Wd.mk (w64 (0 - w.hi)) (u64 (0 - w.lo)))) else ((Wd.mk (xorI .i64 (-1) w.hi) (u64 (0 - w.lo))))
def spec_l02Mul (a : Int) (b : Int) : Wd := let t3 := (spec_l02Times (spec_l02Size a) (spec_l02Size b)); bif (!(decide (a < 0) == decide (b < 0))) then ((spec_l02Minus (Wd.mk (w64 t3.1) t3.2))) else ((Wd.mk (w64 t3.1) t3.2))
def spec_l02Shift (w : Wd) (n : Int) : Wd := bif (n == 0) then w else (bif decide (n < 64) then ((Wd.mk (Int.fdiv w.hi (2 ^ (min (Int.toNat (u64 n)) 64))) (orI .u64 (Int.fdiv w.lo (2 ^ (min (Int.toNat (u64 n)) 64))) (u64 ((u64 w.hi) * (2 ^ (min (Int.toNat (u64 (w64 (64 - n)))) 64))))))) else ((Wd.mk (Int.fdiv w.hi 9223372036854775808) (u64 (Int.fdiv w.hi (2 ^ (min (Int.toNat (u64 (w64 (n - 64)))) 64)))))))
def spec_l02Of (n : Int) : Wd := bif decide (n < 0) then ((Wd.mk (-1) (u64 n))) else ((Wd.mk 0 (u64 n)))
def spec_l02Int (w : Wd) : (Int × Bool) := let t1 := (spec_l02Of (w64 w.lo)); bif (!((t1.hi == w.hi) && (t1.lo == w.lo))) then ((0, false)) else (((w64 w.lo), true))
def spec_MulFloor (a : Int) (b : Int) (shift : Int) : (Int × Bool) := bif (!(spec_l00In shift 0 126)) then ((0, false)) else (let t4 := (spec_l02Int (spec_l02Shift (spec_l02Mul a b) shift)); (t4.1, t4.2))
def spec_l03End (n : Int) (ok : Bool) : (Int × Bool) := bif (!ok) then ((0, false)) else (bif (!(spec_l03Ok n)) then ((0, false)) else ((n, true)))
def spec_l03MulDown (a : Int) (b : Int) : (Int × Bool) := bif (!(spec_l03Ok a)) then ((0, false)) else (bif (!(spec_l03Ok b)) then ((0, false)) else (let t3 := (spec_MulFloor a b 32); let t4 := (spec_l03End t3.1 t3.2); (t4.1, t4.2)))
def spec_l03MulUp (a : Int) (b : Int) : (Int × Bool) := let t1 := (spec_l03MulDown (w64 (0 - a)) b); bif (!(spec_l03Ok a)) then ((0, false)) else (bif (!t1.2) then ((0, false)) else (((w64 (0 - t1.1)), true)))
def spec_MulI (d : Iv) (i : Iv) : Iv := bif (!(spec_l04Ok d)) then spec_l04Whole else (bif (!(spec_l04Ok i)) then spec_l04Whole else (let t5 := (spec_l03MulDown d.lo i.lo); let t6 := (spec_l03MulUp d.lo i.lo); bif (!t5.2) then spec_l04Whole else (bif (!t6.2) then spec_l04Whole else (let t11 := (spec_l03MulDown d.lo i.hi); let t12 := (spec_l03MulUp d.lo i.hi); bif (!t11.2) then spec_l04Whole else (bif (!t12.2) then spec_l04Whole else (let t17 := (spec_l03MulDown d.hi i.lo); let t18 := (spec_l03MulUp d.hi i.lo); bif (!t17.2) then spec_l04Whole else (bif (!t18.2) then spec_l04Whole else (let t23 := (spec_l03MulDown d.hi i.hi); let t24 := (spec_l03MulUp d.hi i.hi); bif (!t23.2) then spec_l04Whole else (bif (!t24.2) then spec_l04Whole else ((spec_l04Make (spec_l00Min (spec_l00Min (spec_l00Min (spec_l00Min 1152921504606846976 t5.1) t11.1) t17.1) t23.1) (spec_l00Max (spec_l00Max (spec_l00Max (spec_l00Max (-1152921504606846976) t6.1) t12.1) t18.1) t24.1))))))))))))
def spec_ScaleV (a : V3) (k : Iv) : V3 := (V3.mk (spec_MulI a.x k) (spec_MulI a.y k) (spec_MulI a.z k))
def impl_ValidFix (n : Int) : Bool := (impl_within n (-1152921504606846976) 1152921504606846976)
def bits_Mul64 (x : Int) (y : Int) : (Int × Int) := let x2 := (u64 ((u64 ((Int.fdiv x 4294967296) * (andI .u64 y 4294967295))) + (Int.fdiv (u64 ((andI .u64 x 4294967295) * (andI .u64 y 4294967295))) 4294967296))); ((u64 ((u64 ((u64 ((Int.fdiv x 4294967296) * (Int.fdiv y 4294967296))) + (Int.fdiv x2 4294967296))) + (Int.fdiv (u64 ((andI .u64 x2 4294967295) + (u64 ((andI .u64 x 4294967295) * (Int.fdiv y 4294967296))))) 4294967296))), (u64 (x * y)))
def impl_WideMul (a : Int) (b : Int) : Wd := let t1 := (bits_Mul64 (u64 a) (u64 b)); bif decide (a < 0) then (bif decide (b < 0) then ((Wd.mk (w64 (u64 ((u64 (t1.1 - (u64 b))) - (u64 a)))) t1.2)) else ((Wd.mk (w64 (u64 (t1.1 - (u64 b)))) t1.2))) else (bif decide (b < 0) then ((Wd.mk (w64 (u64 (t1.1 - (u64 a)))) t1.2)) else ((Wd.mk (w64 t1.1) t1.2)))
def impl_WideShift (w : Wd) (n : Int) : Wd := bif (!(impl_within n 0 127)) then ((Wd.mk 0 0)) else (bif decide (n ≥ 64) then ((Wd.mk (Int.fdiv w.hi 9223372036854775808) (u64 (Int.fdiv w.hi (2 ^ (min (Int.toNat (w64 (n - 64))) 64)))))) else ((Wd.mk (Int.fdiv w.hi (2 ^ (min (Int.toNat n) 64))) (orI .u64 (Int.fdiv w.lo (2 ^ (min (Int.toNat n) 64))) (u64 ((u64 w.hi) * (2 ^ (min (Int.toNat (w64 (64 - n))) 64))))))))
def impl_WideOf (n : Int) : Wd := (Wd.mk (Int.fdiv n 9223372036854775808) (u64 n))
def impl_WideInt (w : Wd) : (Int × Bool) := let t1 := (impl_WideOf (w64 w.lo)); bif (!((t1.hi == w.hi) && (t1.lo == w.lo))) then ((0, false)) else (((w64 w.lo), true))
def impl_MulFloor (a : Int) (b : Int) (shift : Int) : (Int × Bool) := bif (!(impl_within shift 0 126)) then ((0, false)) else (let t4 := (impl_WideInt (impl_WideShift (impl_WideMul a b) shift)); (t4.1, t4.2))
def impl_fixed (n : Int) (ok : Bool) : (Int × Bool) := bif (!ok) then ((0, false)) else (bif (!(impl_ValidFix n)) then ((0, false)) else ((n, true)))
def impl_MulDown (a : Int) (b : Int) : (Int × Bool) := bif (!(impl_ValidFix a)) then ((0, false)) else (bif (!(impl_ValidFix b)) then ((0, false)) else (let t3 := (impl_MulFloor a b 32); let t4 := (impl_fixed t3.1 t3.2); (t4.1, t4.2)))
def impl_MulUp (a : Int) (b : Int) : (Int × Bool) := bif (!(impl_ValidFix a)) then ((0, false)) else (bif (!(impl_ValidFix b)) then ((0, false)) else (let t3 := (impl_MulDown (w64 (0 - a)) b); ((w64 (0 - t3.1)), t3.2)))
def impl_MulI (a : Iv) (b : Iv) : Iv := bif (!(impl_areBounded a b)) then impl_Whole else (let t3 := (impl_MulDown a.lo b.lo); let t4 := (impl_MulUp a.lo b.lo); bif (!t3.2) then impl_Whole else (bif (!t4.2) then impl_Whole else (let t7 := (impl_MulDown a.lo b.hi); let t8 := (impl_MulUp a.lo b.hi); bif (!t7.2) then impl_Whole else (bif (!t8.2) then impl_Whole else (let t11 := (impl_MulDown a.hi b.lo); let t12 := (impl_MulUp a.hi b.lo); bif (!t11.2) then impl_Whole else (bif (!t12.2) then impl_Whole else (let t15 := (impl_MulDown a.hi b.hi); let t16 := (impl_MulUp a.hi b.hi); bif (!t15.2) then impl_Whole else (bif (!t16.2) then impl_Whole else ((impl_bounded (mnI (mnI (mnI (mnI t3.1 t3.1) t7.1) t11.1) t15.1) (mxI (mxI (mxI (mxI t4.1 t4.1) t8.1) t12.1) t16.1) true))))))))))
def impl_ScaleV (a : V3) (k : Iv) : V3 := (V3.mk (impl_MulI a.x k) (impl_MulI a.y k) (impl_MulI a.z k))
def laws_FnExactScaleV (aA : V3) (aK : Iv) : Bool := bif (!(laws_eqVec (impl_ScaleV (laws_toVec aA) (laws_toInterval aK)) (spec_ScaleV (laws_toVec aA) (laws_toInterval aK)))) then false else true
def spec_DotV (a : V3) (b : V3) : Iv := (spec_AddI (spec_AddI (spec_MulI a.x b.x) (spec_MulI a.y b.y)) (spec_MulI a.z b.z))
def impl_DotV (a : V3) (b : V3) : Iv := (impl_AddI (impl_AddI (impl_MulI a.x b.x) (impl_MulI a.y b.y)) (impl_MulI a.z b.z))
def laws_FnExactDotV (aA : V3) (aB : V3) : Bool := bif (!(laws_eqInterval (impl_DotV (laws_toVec aA) (laws_toVec aB)) (spec_DotV (laws_toVec aA) (laws_toVec aB)))) then false else true
def laws_toMat (a : M3) : M3 := (M3.mk (laws_toVec a.a) (laws_toVec a.b) (laws_toVec a.c))
def spec_ApplyM (m : M3) (a : V3) : V3 := (V3.mk (spec_DotV m.a a) (spec_DotV m.b a) (spec_DotV m.c a))
def impl_ApplyM (m : M3) (a : V3) : V3 := (V3.mk (impl_DotV m.a a) (impl_DotV m.b a) (impl_DotV m.c a))
def laws_FnExactApplyM (aM : M3) (aA : V3) : Bool := bif (!(laws_eqVec (impl_ApplyM (laws_toMat aM) (laws_toVec aA)) (spec_ApplyM (laws_toMat aM) (laws_toVec aA)))) then false else true
def spec_CrossV (a : V3) (b : V3) : V3 := (V3.mk (spec_SubI (spec_MulI a.y b.z) (spec_MulI a.z b.y)) (spec_SubI (spec_MulI a.z b.x) (spec_MulI a.x b.z)) (spec_SubI (spec_MulI a.x b.y) (spec_MulI a.y b.x)))
def impl_CrossV (a : V3) (b : V3) : V3 := (V3.mk (impl_SubI (impl_MulI a.y b.z) (impl_MulI a.z b.y)) (impl_SubI (impl_MulI a.z b.x) (impl_MulI a.x b.z)) (impl_SubI (impl_MulI a.x b.y) (impl_MulI a.y b.x)))
def laws_FnExactCrossV (aA : V3) (aB : V3) : Bool := bif (!(laws_eqVec (impl_CrossV (laws_toVec aA) (laws_toVec aB)) (spec_CrossV (laws_toVec aA) (laws_toVec aB)))) then false else true
def spec_l10Columns (m : M3) : M3 := (M3.mk (V3.mk m.a.x m.b.x m.c.x) (V3.mk m.a.y m.b.y m.c.y) (V3.mk m.a.z m.b.z m.c.z))
def spec_MulM (m : M3) (n : M3) : M3 := let t1 := (spec_l10Columns n); (M3.mk (spec_ApplyM t1 m.a) (spec_ApplyM t1 m.b) (spec_ApplyM t1 m.c))
def impl_transposed (m : M3) : M3 := (M3.mk (V3.mk m.a.x m.b.x m.c.x) (V3.mk m.a.y m.b.y m.c.y) (V3.mk m.a.z m.b.z m.c.z))
def impl_MulM (m : M3) (n : M3) : M3 := let t1 := (impl_transposed n); (M3.mk (impl_ApplyM t1 m.a) (impl_ApplyM t1 m.b) (impl_ApplyM t1 m.c))
def laws_eqMat (a : M3) (b : M3) : Bool := bif (!(laws_eqVec a.a b.a)) then false else (bif (!(laws_eqVec a.b b.b)) then false else (bif (!(laws_eqVec a.c b.c)) then false else true))
def laws_FnExactMulM (aM : M3) (aN : M3) : Bool := bif (!(laws_eqMat (impl_MulM (laws_toMat aM) (laws_toMat aN)) (spec_MulM (laws_toMat aM) (laws_toMat aN)))) then false else true
end Go.G880
