/- The machine walks these functions as the plain functions say; written by a program of this session out of the translation, with contracts of some functions of our own. -/
import Derived.Test.YtogpbandlpjccaaXF3
namespace Go.Proofs.Ytogpbandlpjccaa.TX
open Go.RowKit Go.Proofs.YtogpbandlpjccaaW.PrintWords Go.Proofs.YtogpbandlpjccaaW.PrintLast Go.Proofs.YtogpbandlpjccaaW.PrintMore
set_option linter.unusedVariables false
set_option linter.unusedSimpArgs false
mutual
def qaA.j0 : Nat → List Int → List (S31) → List (S31) → List (S31) → Bool → Option (Bool)
 | 0, _, _, _, _, _ => none
 | k + 1, x5, x6, x9, x10, x49 => if x49 = true then (some false) else (qaA.l0 k x5 x6 x9 x10 0)
def qaA.l0 : Nat → List Int → List (S31) → List (S31) → List (S31) → Int → Option (Bool)
 | 0, _, _, _, _, _ => none
 | k + 1, x5, x6, x9, x10, x12 => if x12 < (x5.length : Int) then (qaA.l1 k x5 x6 x9 x10 x12 false 0) else (qaA.l3 k x5 x6 x9 0)
def qaA.l1 : Nat → List Int → List (S31) → List (S31) → List (S31) → Int → Bool → Int → Option (Bool)
 | 0, _, _, _, _, _, _, _ => none
 | k + 1, x5, x6, x9, x10, x12, x13, x14 => if x14 < (x9.length : Int) then (if x13 = true then (qaA.l1 k x5 x6 x9 x10 x12 true (wrap64 (x14 + 1))) else (if 0 ≤ x14 then (if 0 ≤ x12 then (if x12 < (x5.length : Int) then ((qbN.f ((qaN x9 x14).f0) ((qaN x9 x14).f1) (wrap64 ((rd x5 x12) * 4294967296))).bind fun t211 => (qaA.l1 k x5 x6 x9 x10 x12 t211 (wrap64 (x14 + 1)))) else (none)) else (none)) else (none))) else (qaA.l2 k x5 x6 x9 x10 x12 x13 0)
def qaA.l2 : Nat → List Int → List (S31) → List (S31) → List (S31) → Int → Bool → Int → Option (Bool)
 | 0, _, _, _, _, _, _, _ => none
 | k + 1, x5, x6, x9, x10, x12, x13, x15 => if x15 < (x10.length : Int) then (if x13 = true then (qaA.l2 k x5 x6 x9 x10 x12 true (wrap64 (x15 + 1))) else (if 0 ≤ x15 then (if 0 ≤ x12 then (if x12 < (x5.length : Int) then ((qbN.f ((qaN x10 x15).f0) ((qaN x10 x15).f1) (wrap64 ((rd x5 x12) * 4294967296))).bind fun t214 => (qaA.l2 k x5 x6 x9 x10 x12 t214 (wrap64 (x15 + 1)))) else (none)) else (none)) else (none))) else (if x13 = true then (if 0 ≤ x12 then (if x12 < (x5.length : Int) then ((qa7.f (rd x5 x12)).bind fun bt216 => ((qaH.f x6 bt216.1 bt216.2).bind fun bt218 => ((qbN.f bt218.1 bt218.2 0).bind fun t220 => (if t220 = true then (qaA.l0 k x5 x6 x9 x10 (wrap64 (x12 + 1))) else (some false))))) else (none)) else (none)) else (some false))
def qaA.l3 : Nat → List Int → List (S31) → List (S31) → Int → Option (Bool)
 | 0, _, _, _, _ => none
 | k + 1, x5, x6, x9, x16 => if x16 < (x9.length : Int) then (if 0 ≤ x16 then ((qaJ.f x6 ((qaN x9 x16).f0) ((qaN x9 x16).f1) 20).bind fun bt222 => ((qaG.f x6 ((qaN x9 x16).f0) ((qaN x9 x16).f1) 6).bind fun bt227 => (if bt222.2.2 = 0 then (if bt227.2.2 = 0 then ((qbG.f ((qaN x9 x16).f0) ((qaN x9 x16).f1)).bind fun t232 => (if t232 = true then ((qbM.f bt222.1 bt222.2.1 ((qaN x9 x16).f0) ((qaN x9 x16).f1)).bind fun t234 => (if t234 = true then ((qbM.f bt227.1 bt227.2.1 ((qaN x9 x16).f0) ((qaN x9 x16).f1)).bind fun t236 => (if t236 = true then ((qaT.f x6 ((qaN x9 x16).f0) ((qaN x9 x16).f1)).bind fun t238 => (qaA.j5 k x5 x6 x9 x16 (!t238) bt222.1 bt222.2.1 bt227.1 bt227.2.1)) else (qaA.j5 k x5 x6 x9 x16 true bt222.1 bt222.2.1 bt227.1 bt227.2.1))) else (qaA.j5 k x5 x6 x9 x16 true bt222.1 bt222.2.1 bt227.1 bt227.2.1))) else (qaA.j5 k x5 x6 x9 x16 true bt222.1 bt222.2.1 bt227.1 bt227.2.1))) else (qaA.j5 k x5 x6 x9 x16 true bt222.1 bt222.2.1 bt227.1 bt227.2.1)) else (qaA.j5 k x5 x6 x9 x16 true bt222.1 bt222.2.1 bt227.1 bt227.2.1)))) else (none)) else (some true)
def qaA.j5 : Nat → List Int → List (S31) → List (S31) → Int → Bool → Int → Int → Int → Int → Option (Bool)
 | 0, _, _, _, _, _, _, _, _, _ => none
 | k + 1, x5, x6, x9, x16, x171, x226000, x226001, x231000, x231001 => if x171 = true then (some false) else (qaA.l4 k x5 x6 x9 x16 0 0 x226000 x226001 x231000 x231001)
def qaA.l4 : Nat → List Int → List (S31) → List (S31) → Int → Int → Int → Int → Int → Int → Int → Option (Bool)
 | 0, _, _, _, _, _, _, _, _, _, _ => none
 | k + 1, x5, x6, x9, x16, x21, x22, x226000, x226001, x231000, x231001 => if x22 < (x5.length : Int) then (if 0 ≤ x16 then (if x16 < (x9.length : Int) then (if 0 ≤ x22 then ((qbN.f ((qaN x9 x16).f0) ((qaN x9 x16).f1) (wrap64 ((rd x5 x22) * 4294967296))).bind fun t241 => (if t241 = true then ((qbN.f x226000 x226001 (wrap64 ((rd x5 x22) * 4294967296))).bind fun t243 => (if t243 = true then ((qbN.f x231000 x231001 (wrap64 ((rd x5 x22) * 4294967296))).bind fun t245 => (if t245 = true then (qaA.l4 k x5 x6 x9 x16 (wrap64 (x21 + 1)) (wrap64 (x22 + 1)) x226000 x226001 x231000 x231001) else (some false))) else (some false))) else (qaA.l4 k x5 x6 x9 x16 x21 (wrap64 (x22 + 1)) x226000 x226001 x231000 x231001))) else (none)) else (none)) else (none)) else (if x21 = 1 then (qaA.l3 k x5 x6 x9 (wrap64 (x16 + 1))) else (some false))
end
def qaA.f (k : Nat) (l0 : List Int) (l1 : List Int) : Option (Bool) := (qeU.f l0 l1).bind fun t192 => (if t192 = true then (some true) else ((qaY.f k l0).bind fun t193 => ((qa3.f k t193).bind fun bt196 => ((qeN.f l1 0 100).bind fun t200 => ((qdH.f bt196.1 (-23622320128) (wrap64 (21474836480 + t200)) 8).bind fun bt202 => (if bt196.2 = true then (qaA.j0 k t193 bt196.1 bt202.1 bt202.2.1 (bt202.2.2 != 0)) else (qaA.j0 k t193 bt196.1 bt202.1 bt202.2.1 true)))))))
theorem qaA.mono_l : ∀ k, (∀ y0 y1 y2 y3 y4, LeO (qaA.j0 k y0 y1 y2 y3 y4) (qaA.j0 (k + 1) y0 y1 y2 y3 y4)) ∧ (∀ y0 y1 y2 y3 y4, LeO (qaA.l0 k y0 y1 y2 y3 y4) (qaA.l0 (k + 1) y0 y1 y2 y3 y4)) ∧ (∀ y0 y1 y2 y3 y4 y5 y6, LeO (qaA.l1 k y0 y1 y2 y3 y4 y5 y6) (qaA.l1 (k + 1) y0 y1 y2 y3 y4 y5 y6)) ∧ (∀ y0 y1 y2 y3 y4 y5 y6, LeO (qaA.l2 k y0 y1 y2 y3 y4 y5 y6) (qaA.l2 (k + 1) y0 y1 y2 y3 y4 y5 y6)) ∧ (∀ y0 y1 y2 y3, LeO (qaA.l3 k y0 y1 y2 y3) (qaA.l3 (k + 1) y0 y1 y2 y3)) ∧ (∀ y0 y1 y2 y3 y4 y5 y6 y7 y8, LeO (qaA.j5 k y0 y1 y2 y3 y4 y5 y6 y7 y8) (qaA.j5 (k + 1) y0 y1 y2 y3 y4 y5 y6 y7 y8)) ∧ (∀ y0 y1 y2 y3 y4 y5 y6 y7 y8 y9, LeO (qaA.l4 k y0 y1 y2 y3 y4 y5 y6 y7 y8 y9) (qaA.l4 (k + 1) y0 y1 y2 y3 y4 y5 y6 y7 y8 y9))
 | 0 => ⟨fun _ _ _ _ _ r h => by simp [qaA.j0] at h, fun _ _ _ _ _ r h => by simp [qaA.l0] at h, fun _ _ _ _ _ _ _ r h => by simp [qaA.l1] at h, fun _ _ _ _ _ _ _ r h => by simp [qaA.l2] at h, fun _ _ _ _ r h => by simp [qaA.l3] at h, fun _ _ _ _ _ _ _ _ _ r h => by simp [qaA.j5] at h, fun _ _ _ _ _ _ _ _ _ _ r h => by simp [qaA.l4] at h⟩
 | k + 1 => by
  obtain ⟨ih0, ih1, ih2, ih3, ih4, ih5, ih6⟩ := qaA.mono_l k
  refine ⟨?_, ?_, ?_, ?_, ?_, ?_, ?_⟩
  ·intro y0 y1 y2 y3 y4
   unfold qaA.j0
   repeat' first
   | (with_reducible exact ih0 _ _ _ _ _)
   | (with_reducible exact ih1 _ _ _ _ _)
   | (with_reducible exact ih2 _ _ _ _ _ _ _)
   | (with_reducible exact ih3 _ _ _ _ _ _ _)
   | (with_reducible exact ih4 _ _ _ _)
   | (with_reducible exact ih5 _ _ _ _ _ _ _ _ _)
   | (with_reducible exact ih6 _ _ _ _ _ _ _ _ _ _)
   | (with_reducible exact qa3.mono _ _)
   | (with_reducible exact qaY.mono _ _)
   | (with_reducible exact LeO.refl _)
   | (with_reducible exact LeO.none _)
   | (with_reducible refine LeO.ite ?_ ?_)
   | (with_reducible refine LeO.bind ?_ (fun _ => ?_))
   | exact ih0 _ _ _ _ _
   | exact ih1 _ _ _ _ _
   | exact ih2 _ _ _ _ _ _ _
   | exact ih3 _ _ _ _ _ _ _
   | exact ih4 _ _ _ _
   | exact ih5 _ _ _ _ _ _ _ _ _
   | exact ih6 _ _ _ _ _ _ _ _ _ _
   | exact qa3.mono _ _
   | exact qaY.mono _ _
   | exact LeO.none _
   | refine LeO.ite ?_ ?_
   | refine LeO.bind ?_ (fun _ => ?_)
  ·intro y0 y1 y2 y3 y4
   unfold qaA.l0
   repeat' first
   | (with_reducible exact ih0 _ _ _ _ _)
   | (with_reducible exact ih1 _ _ _ _ _)
   | (with_reducible exact ih2 _ _ _ _ _ _ _)
   | (with_reducible exact ih3 _ _ _ _ _ _ _)
   | (with_reducible exact ih4 _ _ _ _)
   | (with_reducible exact ih5 _ _ _ _ _ _ _ _ _)
   | (with_reducible exact ih6 _ _ _ _ _ _ _ _ _ _)
   | (with_reducible exact qa3.mono _ _)
   | (with_reducible exact qaY.mono _ _)
   | (with_reducible exact LeO.refl _)
   | (with_reducible exact LeO.none _)
   | (with_reducible refine LeO.ite ?_ ?_)
   | (with_reducible refine LeO.bind ?_ (fun _ => ?_))
   | exact ih0 _ _ _ _ _
   | exact ih1 _ _ _ _ _
   | exact ih2 _ _ _ _ _ _ _
   | exact ih3 _ _ _ _ _ _ _
   | exact ih4 _ _ _ _
   | exact ih5 _ _ _ _ _ _ _ _ _
   | exact ih6 _ _ _ _ _ _ _ _ _ _
   | exact qa3.mono _ _
   | exact qaY.mono _ _
   | exact LeO.none _
   | refine LeO.ite ?_ ?_
   | refine LeO.bind ?_ (fun _ => ?_)
  ·intro y0 y1 y2 y3 y4 y5 y6
   unfold qaA.l1
   repeat' first
   | (with_reducible exact ih0 _ _ _ _ _)
   | (with_reducible exact ih1 _ _ _ _ _)
   | (with_reducible exact ih2 _ _ _ _ _ _ _)
   | (with_reducible exact ih3 _ _ _ _ _ _ _)
   | (with_reducible exact ih4 _ _ _ _)
   | (with_reducible exact ih5 _ _ _ _ _ _ _ _ _)
   | (with_reducible exact ih6 _ _ _ _ _ _ _ _ _ _)
   | (with_reducible exact qa3.mono _ _)
   | (with_reducible exact qaY.mono _ _)
   | (with_reducible exact LeO.refl _)
   | (with_reducible exact LeO.none _)
   | (with_reducible refine LeO.ite ?_ ?_)
   | (with_reducible refine LeO.bind ?_ (fun _ => ?_))
   | exact ih0 _ _ _ _ _
   | exact ih1 _ _ _ _ _
   | exact ih2 _ _ _ _ _ _ _
   | exact ih3 _ _ _ _ _ _ _
   | exact ih4 _ _ _ _
   | exact ih5 _ _ _ _ _ _ _ _ _
   | exact ih6 _ _ _ _ _ _ _ _ _ _
   | exact qa3.mono _ _
   | exact qaY.mono _ _
   | exact LeO.none _
   | refine LeO.ite ?_ ?_
   | refine LeO.bind ?_ (fun _ => ?_)
  ·intro y0 y1 y2 y3 y4 y5 y6
   unfold qaA.l2
   repeat' first
   | (with_reducible exact ih0 _ _ _ _ _)
   | (with_reducible exact ih1 _ _ _ _ _)
   | (with_reducible exact ih2 _ _ _ _ _ _ _)
   | (with_reducible exact ih3 _ _ _ _ _ _ _)
   | (with_reducible exact ih4 _ _ _ _)
   | (with_reducible exact ih5 _ _ _ _ _ _ _ _ _)
   | (with_reducible exact ih6 _ _ _ _ _ _ _ _ _ _)
   | (with_reducible exact qa3.mono _ _)
   | (with_reducible exact qaY.mono _ _)
   | (with_reducible exact LeO.refl _)
   | (with_reducible exact LeO.none _)
   | (with_reducible refine LeO.ite ?_ ?_)
   | (with_reducible refine LeO.bind ?_ (fun _ => ?_))
   | exact ih0 _ _ _ _ _
   | exact ih1 _ _ _ _ _
   | exact ih2 _ _ _ _ _ _ _
   | exact ih3 _ _ _ _ _ _ _
   | exact ih4 _ _ _ _
   | exact ih5 _ _ _ _ _ _ _ _ _
   | exact ih6 _ _ _ _ _ _ _ _ _ _
   | exact qa3.mono _ _
   | exact qaY.mono _ _
   | exact LeO.none _
   | refine LeO.ite ?_ ?_
   | refine LeO.bind ?_ (fun _ => ?_)
  ·intro y0 y1 y2 y3
   unfold qaA.l3
   repeat' first
   | (with_reducible exact ih0 _ _ _ _ _)
   | (with_reducible exact ih1 _ _ _ _ _)
   | (with_reducible exact ih2 _ _ _ _ _ _ _)
   | (with_reducible exact ih3 _ _ _ _ _ _ _)
   | (with_reducible exact ih4 _ _ _ _)
   | (with_reducible exact ih5 _ _ _ _ _ _ _ _ _)
   | (with_reducible exact ih6 _ _ _ _ _ _ _ _ _ _)
   | (with_reducible exact qa3.mono _ _)
   | (with_reducible exact qaY.mono _ _)
   | (with_reducible exact LeO.refl _)
   | (with_reducible exact LeO.none _)
   | (with_reducible refine LeO.ite ?_ ?_)
   | (with_reducible refine LeO.bind ?_ (fun _ => ?_))
   | exact ih0 _ _ _ _ _
   | exact ih1 _ _ _ _ _
   | exact ih2 _ _ _ _ _ _ _
   | exact ih3 _ _ _ _ _ _ _
   | exact ih4 _ _ _ _
   | exact ih5 _ _ _ _ _ _ _ _ _
   | exact ih6 _ _ _ _ _ _ _ _ _ _
   | exact qa3.mono _ _
   | exact qaY.mono _ _
   | exact LeO.none _
   | refine LeO.ite ?_ ?_
   | refine LeO.bind ?_ (fun _ => ?_)
  ·intro y0 y1 y2 y3 y4 y5 y6 y7 y8
   unfold qaA.j5
   repeat' first
   | (with_reducible exact ih0 _ _ _ _ _)
   | (with_reducible exact ih1 _ _ _ _ _)
   | (with_reducible exact ih2 _ _ _ _ _ _ _)
   | (with_reducible exact ih3 _ _ _ _ _ _ _)
   | (with_reducible exact ih4 _ _ _ _)
   | (with_reducible exact ih5 _ _ _ _ _ _ _ _ _)
   | (with_reducible exact ih6 _ _ _ _ _ _ _ _ _ _)
   | (with_reducible exact qa3.mono _ _)
   | (with_reducible exact qaY.mono _ _)
   | (with_reducible exact LeO.refl _)
   | (with_reducible exact LeO.none _)
   | (with_reducible refine LeO.ite ?_ ?_)
   | (with_reducible refine LeO.bind ?_ (fun _ => ?_))
   | exact ih0 _ _ _ _ _
   | exact ih1 _ _ _ _ _
   | exact ih2 _ _ _ _ _ _ _
   | exact ih3 _ _ _ _ _ _ _
   | exact ih4 _ _ _ _
   | exact ih5 _ _ _ _ _ _ _ _ _
   | exact ih6 _ _ _ _ _ _ _ _ _ _
   | exact qa3.mono _ _
   | exact qaY.mono _ _
   | exact LeO.none _
   | refine LeO.ite ?_ ?_
   | refine LeO.bind ?_ (fun _ => ?_)
  ·intro y0 y1 y2 y3 y4 y5 y6 y7 y8 y9
   unfold qaA.l4
   repeat' first
   | (with_reducible exact ih0 _ _ _ _ _)
   | (with_reducible exact ih1 _ _ _ _ _)
   | (with_reducible exact ih2 _ _ _ _ _ _ _)
   | (with_reducible exact ih3 _ _ _ _ _ _ _)
   | (with_reducible exact ih4 _ _ _ _)
   | (with_reducible exact ih5 _ _ _ _ _ _ _ _ _)
   | (with_reducible exact ih6 _ _ _ _ _ _ _ _ _ _)
   | (with_reducible exact qa3.mono _ _)
   | (with_reducible exact qaY.mono _ _)
   | (with_reducible exact LeO.refl _)
   | (with_reducible exact LeO.none _)
   | (with_reducible refine LeO.ite ?_ ?_)
   | (with_reducible refine LeO.bind ?_ (fun _ => ?_))
   | exact ih0 _ _ _ _ _
   | exact ih1 _ _ _ _ _
   | exact ih2 _ _ _ _ _ _ _
   | exact ih3 _ _ _ _ _ _ _
   | exact ih4 _ _ _ _
   | exact ih5 _ _ _ _ _ _ _ _ _
   | exact ih6 _ _ _ _ _ _ _ _ _ _
   | exact qa3.mono _ _
   | exact qaY.mono _ _
   | exact LeO.none _
   | refine LeO.ite ?_ ?_
   | refine LeO.bind ?_ (fun _ => ?_)
theorem qaA.mono : ∀ a0 a1 k, LeO (qaA.f k a0 a1) (qaA.f (k + 1) a0 a1) := by
 intro a0 a1 k
 obtain ⟨ih0, ih1, ih2, ih3, ih4, ih5, ih6⟩ := qaA.mono_l k
 unfold qaA.f
 repeat' first
   | (with_reducible exact ih0 _ _ _ _ _)
   | (with_reducible exact ih1 _ _ _ _ _)
   | (with_reducible exact ih2 _ _ _ _ _ _ _)
   | (with_reducible exact ih3 _ _ _ _ _ _ _)
   | (with_reducible exact ih4 _ _ _ _)
   | (with_reducible exact ih5 _ _ _ _ _ _ _ _ _)
   | (with_reducible exact ih6 _ _ _ _ _ _ _ _ _ _)
   | (with_reducible exact qa3.mono _ _)
   | (with_reducible exact qaY.mono _ _)
   | (with_reducible exact LeO.refl _)
   | (with_reducible exact LeO.none _)
   | (with_reducible refine LeO.ite ?_ ?_)
   | (with_reducible refine LeO.bind ?_ (fun _ => ?_))
   | exact ih0 _ _ _ _ _
   | exact ih1 _ _ _ _ _
   | exact ih2 _ _ _ _ _ _ _
   | exact ih3 _ _ _ _ _ _ _
   | exact ih4 _ _ _ _
   | exact ih5 _ _ _ _ _ _ _ _ _
   | exact ih6 _ _ _ _ _ _ _ _ _ _
   | exact qa3.mono _ _
   | exact qaY.mono _ _
   | exact LeO.none _
   | refine LeO.ite ?_ ?_
   | refine LeO.bind ?_ (fun _ => ?_)
def qaA.T16 : Bool × List (List Nat × List Nat) := (true, [([], []), ([0], [0]), ([1], [1]), ([1], [1]), ([2, 3, 1], [1, 2, 3]), ([4, 1], [1, 4]), ([1], [1]), ([1], [1]), ([6, 7, 1], [1, 6, 7]), ([8, 1], [1, 8]), ([9, 1], [1, 9]), ([5, 10, 1, 1], [1, 5, 10]), ([1, 11], [1, 11]), ([12, 11, 0, 1, 2, 3, 4, 5, 6, 7, 8, 9, 10, 11, 12], [0, 12])])
def qaA.B16 : List Nat := [0, 1, 3, 3, 15, 31, 3, 3, 195, 451, 963, 2047, 4095, 8191]
theorem qaA.tab16 : rtab .any (opsOf Try.f3 16) = qaA.T16 := by kernel_rfl
theorem qaA.bits16 : qgD qaA.T16.2 qaA.B16 = true := by kernel_rfl
def qaA.T20 : Bool × List (List Nat × List Nat) := (true, [([], []), ([0], [0]), ([1], [1]), ([1], [1]), ([2, 3, 1], [1, 2, 3]), ([4, 1], [1, 4]), ([1], [1]), ([1], [1]), ([6, 7, 1], [1, 6, 7]), ([8, 1], [1, 8]), ([9, 1], [1, 9]), ([5, 10, 1, 1], [1, 5, 10]), ([1, 11], [1, 11]), ([12, 11, 0, 1, 2, 3, 4, 5, 6, 7, 8, 9, 10, 11, 12], [0, 12])])
def qaA.B20 : List Nat := [0, 1, 3, 3, 15, 31, 3, 3, 195, 451, 963, 2047, 4095, 8191]
theorem qaA.tab20 : rtab .any (opsOf Try.f3 20) = qaA.T20 := by kernel_rfl
theorem qaA.bits20 : qgD qaA.T20.2 qaA.B20 = true := by kernel_rfl
def qaA.T28 : Bool × List (List Nat × List Nat) := (true, [([], []), ([0], [0]), ([1], [1]), ([2], [2]), ([3, 2], [2, 3]), ([2, 4], [2, 4]), ([5, 2], [5]), ([6], [6]), ([6], [6]), ([7, 8, 6], [6, 7, 8]), ([9, 6], [6, 9]), ([10, 6, 6], [6, 10]), ([11, 6], [6, 11]), ([6, 12], [6, 12]), ([13, 11], [13]), ([14], [14]), ([14], [14]), ([14], [14]), ([16, 17, 14], [14, 16, 17]), ([18, 14], [14, 18]), ([15, 19, 14, 14], [14, 15, 19]), ([20, 14], [14, 20]), ([14, 21], [14, 21]), ([22, 20], [22]), ([23], [23]), ([23], [23]), ([23], [23]), ([25, 26, 23], [23, 25, 26]), ([27, 23], [23, 27]), ([24, 28, 23, 23], [23, 24, 28]), ([29, 23], [23, 29]), ([23, 30], [23, 30]), ([31, 29], [31]), ([32], [32]), ([32], [32]), ([32], [32]), ([34, 35, 32], [32, 34, 35]), ([36, 32], [32, 36]), ([33, 37, 32, 32], [32, 33, 37]), ([38, 32], [32, 38]), ([32, 39], [32, 39])])
def qaA.B28 : List Nat := [0, 1, 3, 7, 15, 31, 63, 127, 127, 511, 1023, 2047, 4095, 8191, 16383, 32767, 32767, 32767, 229375, 491519, 1048575, 2097151, 4194303, 8388607, 16777215, 16777215, 16777215, 117440511, 251658239, 536870911, 1073741823, 2147483647, 4294967295, 8589934591, 8589934591, 8589934591, 60129542143, 128849018879, 274877906943, 549755813887, 1099511627775]
theorem qaA.tab28 : rtab .any (opsOf Try.f3 28) = qaA.T28 := by kernel_rfl
theorem qaA.bits28 : qgD qaA.T28.2 qaA.B28 = true := by kernel_rfl
def qaA.T34 : Bool × List (List Nat × List Nat) := (true, [([], []), ([], []), ([0, 1], [0, 1]), ([2], [2]), ([], []), ([], []), ([4, 5], [4, 5]), ([6], [6]), ([7], [7]), ([3, 8], [3, 8]), ([9], [9])])
def qaA.B34 : List Nat := [0, 0, 3, 7, 0, 0, 48, 112, 240, 511, 1023]
theorem qaA.tab34 : rtab .any (opsOf Try.f3 34) = qaA.T34 := by kernel_rfl
theorem qaA.bits34 : qgD qaA.T34.2 qaA.B34 = true := by kernel_rfl
def qaA.T36 : Bool × List (List Nat × List Nat) := (true, [([], []), ([], []), ([], []), ([1, 2], [1, 2]), ([3], [3]), ([4], [4]), ([0, 5], [0, 5]), ([6], [6]), ([7, 6], [7]), ([8], [8]), ([8], [8]), ([8], [8]), ([10, 11, 8], [8, 10, 11]), ([12, 8], [8, 12]), ([13, 8], [8, 13]), ([9, 14, 8, 8], [8, 9, 14]), ([15, 8], [8, 15]), ([8, 16], [8, 16])])
def qaA.B36 : List Nat := [0, 0, 0, 6, 14, 30, 63, 127, 255, 511, 511, 511, 3583, 7679, 15871, 32767, 65535, 131071]
theorem qaA.tab36 : rtab .any (opsOf Try.f3 36) = qaA.T36 := by kernel_rfl
theorem qaA.bits36 : qgD qaA.T36.2 qaA.B36 = true := by kernel_rfl
set_option maxHeartbeats 8000000 in
set_option maxRecDepth 100000 in
theorem qaA.calls (k : Nat) (A0 : Option Addr) (c0 : Nat) (l0 : List Int) (A1 : Option Addr) (c1 : Nat) (l1 : List Int) (r : Bool) (w : World) (hr0 : Kd.C (Kd.int .u8) w A0 l0.length l0) (hc0 : l0.length ≤ c0) (hr1 : Kd.C (Kd.int .u8) w A1 l1.length l1) (hc1 : l1.length ≤ c1) (h : qaA.f k l0 l1 = some r) :
  Calls Try.prog 3 #[.slice A0 l0.length c0, .slice A1 l1.length c1] w fun e w' => e = .returned (.bool r) ∧ Below w.heap.size w w' := by
 have hu31 := Try.underlying31
 have HR0 := Aside0.mk hr0
 have HC0 := Aside0.mk hc0
 clear hr0 hc0
 have HR1 := Aside0.mk hr1
 have HC1 := Aside0.mk hc1
 clear hr1 hc1
 have HB := Aside0.mk (Below.refl w.heap.size w)
 have H : ((qeU.f l0 l1).bind fun t192 => (if t192 = true then (some true) else ((qaY.f k l0).bind fun t193 => ((qa3.f k t193).bind fun bt196 => ((qeN.f l1 0 100).bind fun t200 => ((qdH.f bt196.1 (-23622320128) (wrap64 (21474836480 + t200)) 8).bind fun bt202 => (if bt196.2 = true then (qaA.j0 k t193 bt196.1 bt202.1 bt202.2.1 (bt202.2.2 != 0)) else (qaA.j0 k t193 bt196.1 bt202.1 bt202.2.1 true)))))))) = some r := h
 clear h
 replace H := Option.bind_eq_some_iff.mp H
 obtain ⟨t192, A30, H⟩ := H
 replace H : (if t192 = true then (some true) else ((qaY.f k l0).bind fun t193 => ((qa3.f k t193).bind fun bt196 => ((qeN.f l1 0 100).bind fun t200 => ((qdH.f bt196.1 (-23622320128) (wrap64 (21474836480 + t200)) 8).bind fun bt202 => (if bt196.2 = true then (qaA.j0 k t193 bt196.1 bt202.1 bt202.2.1 (bt202.2.2 != 0)) else (qaA.j0 k t193 bt196.1 bt202.1 bt202.2.1 true))))))) = some r := H
 have A3 := Aside0.mk A30
 clear A30
 by_cases c4 : t192 = true
 ·subst c4
  have H1 : (some true) = some r := by rw [if_pos rfl] at H; exact H
  clear H
  have H := H1
  clear H1
  obtain rfl := Option.some.inj H
  go_enter Try.func3, Try.ntmps3
  go_wp2_with (first | ((with_reducible refine qaV (f := 5) rfl ?_); refine qcL (some 25) rfl rfl Try.func5 (by kernel_rfl) rfl #[.slice A0 l0.length c0, .slice A1 l1.length c1] rfl (by (try simp only [List.map_toArray, List.map_cons, List.map_nil]); first | done | rfl | (simp only [List.length_drop, List.length_take]; rfl)) ?_; (with_reducible refine (qeU.calls _ _ l0 _ _ l1 true _ ?side1 ?side2 ?side3 ?side4 A3.out).mono ?_); (case side1 => repeat (first | exact HR0.out | (with_reducible refine Kd.C_alloc ?_ _) | (with_reducible refine Kd.C_drewN ?_ _) | (with_reducible refine Kd.C_drew ?_))); (case side2 => exact HC0.out); (case side3 => repeat (first | exact HR1.out | (with_reducible refine Kd.C_alloc ?_ _) | (with_reducible refine Kd.C_drewN ?_ _) | (with_reducible refine Kd.C_drew ?_))); (case side4 => exact HC1.out); rintro e w' ⟨rfl, ⟨nd, rfl⟩⟩; refine ⟨_, rfl, ?_⟩))
  go_ret
  exact ⟨by first | rfl | (simp [qbA, qa9] <;> rfl) | (simp [*, qbA, qa9] <;> rfl), b0 HB.out⟩
 ·as_aux_lemma =>
  replace c4 := Bool.eq_false_iff.mpr c4
  subst c4
  have H1 : ((qaY.f k l0).bind fun t193 => ((qa3.f k t193).bind fun bt196 => ((qeN.f l1 0 100).bind fun t200 => ((qdH.f bt196.1 (-23622320128) (wrap64 (21474836480 + t200)) 8).bind fun bt202 => (if bt196.2 = true then (qaA.j0 k t193 bt196.1 bt202.1 bt202.2.1 (bt202.2.2 != 0)) else (qaA.j0 k t193 bt196.1 bt202.1 bt202.2.1 true)))))) = some r := by rw [if_neg (show ¬ (false = true) by decide)] at H; exact H
  clear H
  have H := H1
  clear H1
  replace H := Option.bind_eq_some_iff.mp H
  obtain ⟨t193, A50, H⟩ := H
  replace H : ((qa3.f k t193).bind fun bt196 => ((qeN.f l1 0 100).bind fun t200 => ((qdH.f bt196.1 (-23622320128) (wrap64 (21474836480 + t200)) 8).bind fun bt202 => (if bt196.2 = true then (qaA.j0 k t193 bt196.1 bt202.1 bt202.2.1 (bt202.2.2 != 0)) else (qaA.j0 k t193 bt196.1 bt202.1 bt202.2.1 true))))) = some r := H
  have A5 := Aside0.mk A50
  clear A50
  replace H := Option.bind_eq_some_iff.mp H
  obtain ⟨⟨t196, t197⟩, A60, H⟩ := H
  replace H : ((qeN.f l1 0 100).bind fun t200 => ((qdH.f t196 (-23622320128) (wrap64 (21474836480 + t200)) 8).bind fun bt202 => (if t197 = true then (qaA.j0 k t193 t196 bt202.1 bt202.2.1 (bt202.2.2 != 0)) else (qaA.j0 k t193 t196 bt202.1 bt202.2.1 true)))) = some r := H
  have A6 := Aside0.mk A60
  clear A60
  replace H := Option.bind_eq_some_iff.mp H
  obtain ⟨t200, A70, H⟩ := H
  replace H : ((qdH.f t196 (-23622320128) (wrap64 (21474836480 + t200)) 8).bind fun bt202 => (if t197 = true then (qaA.j0 k t193 t196 bt202.1 bt202.2.1 (bt202.2.2 != 0)) else (qaA.j0 k t193 t196 bt202.1 bt202.2.1 true))) = some r := H
  have A7 := Aside0.mk A70
  clear A70
  replace H := Option.bind_eq_some_iff.mp H
  obtain ⟨⟨t202, t205, t208⟩, A80, H⟩ := H
  replace H : (if t197 = true then (qaA.j0 k t193 t196 t202 t205 (t208 != 0)) else (qaA.j0 k t193 t196 t202 t205 true)) = some r := H
  have A8 := Aside0.mk A80
  clear A80
  have HC9 := Aside0.mk H
  clear H
  go_enter Try.func3, Try.ntmps3
  go_upto_region 7 with (first | ((with_reducible refine qaV (f := 5) rfl ?_); refine qcL (some 25) rfl rfl Try.func5 (by kernel_rfl) rfl #[.slice A0 l0.length c0, .slice A1 l1.length c1] rfl (by (try simp only [List.map_toArray, List.map_cons, List.map_nil]); first | done | rfl | (simp only [List.length_drop, List.length_take]; rfl)) ?_; (with_reducible refine (qeU.calls _ _ l0 _ _ l1 false _ ?side1 ?side2 ?side3 ?side4 A3.out).mono ?_); (case side1 => repeat (first | exact HR0.out | (with_reducible refine Kd.C_alloc ?_ _) | (with_reducible refine Kd.C_drewN ?_ _) | (with_reducible refine Kd.C_drew ?_))); (case side2 => exact HC0.out); (case side3 => repeat (first | exact HR1.out | (with_reducible refine Kd.C_alloc ?_ _) | (with_reducible refine Kd.C_drewN ?_ _) | (with_reducible refine Kd.C_drew ?_))); (case side4 => exact HC1.out); rintro e w' ⟨rfl, ⟨nd, rfl⟩⟩; refine ⟨_, rfl, ?_⟩) | ((with_reducible refine qaV (f := 6) rfl ?_); refine qcL (some 27) rfl rfl Try.func6 (by kernel_rfl) rfl #[.slice A0 l0.length c0] rfl (by (try simp only [List.map_toArray, List.map_cons, List.map_nil]); first | done | rfl | (simp only [List.length_drop, List.length_take]; rfl)) ?_; (with_reducible refine (qaY.calls k _ _ l0 t193 _ ?side1 ?side2 A5.out).mono ?_); (case side1 => repeat (first | exact HR0.out | (with_reducible refine Kd.C_alloc ?_ _) | (with_reducible refine Kd.C_drewN ?_ _) | (with_reducible refine Kd.C_drew ?_))); (case side2 => exact HC0.out); rintro e w10 ⟨v194, rfl, ho0, hb⟩; refine ⟨_, rfl, ?_⟩; have HO195 := Aside0.mk (Kd.R_lower ho0 (qbP (b0 HB.out))); replace HB := Aside0.mk (qaC (b0 HB.out) hb); (try clear hb); (try clear hb2); (try clear hk); (try clear hi); (try clear ho0); obtain ⟨Ao11, co11, eo11⟩ := Kd.R_slice HO195.out; subst eo11) | ((with_reducible refine qaV (f := 7) rfl ?_); refine qcL (some 30) rfl rfl Try.func7 (by kernel_rfl) rfl #[.slice Ao11 t193.length co11] rfl (by (try simp only [List.map_toArray, List.map_cons, List.map_nil]); first | done | rfl | (simp only [List.length_drop, List.length_take]; rfl)) ?_; (with_reducible refine (qa3.calls k _ _ t193 t196 t197 _ ?side1 ?side2 A6.out).mono ?_); (case side1 => repeat (first | exact (Kd.R_reads' HO195.out).2.2 | (with_reducible refine Kd.C_alloc ?_ _) | (with_reducible refine Kd.C_drewN ?_ _) | (with_reducible refine Kd.C_drew ?_))); (case side2 => exact (Kd.R_reads' HO195.out).2.1); rintro e w12 ⟨v198, rfl, ho0, hb⟩; refine ⟨_, rfl, ?_⟩; replace HO195 := Aside0.mk (Kd.R_below (rq HO195.out) hb); have HO199 := Aside0.mk (Kd.R_lower ho0 (qbP (b0 HB.out))); replace HB := Aside0.mk (qaC (b0 HB.out) hb); (try clear hb); (try clear hb2); (try clear hk); (try clear hi); (try clear ho0)) | ((with_reducible refine qaV (f := 8) rfl ?_); refine qcL (some 34) rfl rfl Try.func8 (by kernel_rfl) rfl #[.slice A1 l1.length c1, .int .i64 0, .int .i64 100] rfl (by (try simp only [List.map_toArray, List.map_cons, List.map_nil]); first | done | rfl | (simp only [List.length_drop, List.length_take]; rfl)) ?_; (with_reducible refine (qeN.calls _ _ l1 0 100 t200 _ ?side1 ?side2 A7.out).mono ?_); (case side1 => repeat (first | exact (Kd.C_below HR1.out HB.out) | (with_reducible refine Kd.C_alloc ?_ _) | (with_reducible refine Kd.C_drewN ?_ _) | (with_reducible refine Kd.C_drew ?_))); (case side2 => exact HC1.out); rintro e w' ⟨rfl, ⟨nd, rfl⟩⟩; refine ⟨_, rfl, ?_⟩; (try (rw [drewN_self w12]; generalize hq_ : World.drewN w12 _ = w12; have n0_ : Aside0 (Kd.R (Kd.int .i64) 2 w12 w.heap.size (fun _ => True) (.slice Ao11 t193.length co11) t193) := ⟨by rw [← hq_]; exact (rq HO195.out)⟩; have n1_ : Aside0 (Kd.R k31 31 w12 w.heap.size (fun _ => True) v198 t196) := ⟨by rw [← hq_]; exact (rq HO199.out)⟩; have n2_ : Aside0 (Below w.heap.size w w12) := ⟨by rw [← hq_]; exact (b0 HB.out)⟩; clear HO195 HO199 HB hq_; have HO195 := n0_; have HO199 := n1_; have HB := n2_; clear n0_ n1_ n2_))) | ((with_reducible refine qcR (N := 8) rfl ?_); refine qcY ?hg (N := 8) ?hd (cs := #[.int .i64 0, .int .i64 0]) (t := 31) ?hr ?_; (case hd => rfl); (case hg => rfl); (case hr => first | (go_simp; done) | (go_simp; rfl)); intro gb201 hg w13 hbox hb; replace HO195 := Aside0.mk (Kd.R_below (rq HO195.out) hb); replace HO199 := Aside0.mk (Kd.R_below (Kd.R_elderB (rq HO199.out) gb201 (Nat.le_of_eq hg.symm)) hb); have BK201 := Aside0.mk (hbox); have GW201 := Aside0.mk ((by rw [hg]; exact (qbP (b0 HB.out)) : w.heap.size ≤ gb201)); have GE201 := Aside0.mk ((by rw [hg]; exact (qbP (b0 HB.out)) : w.heap.size ≤ gb201)); replace HB := Aside0.mk (qaC (b0 HB.out) hb); clear hb hbox hg; have hcz14_0 : w13.cell? ⟨gb201, 0, none⟩ = some (.int .i64 0) := (qaD BK201.out 0).trans rfl; have hcz14_1 : w13.cell? ⟨gb201, 1, none⟩ = some (.int .i64 0) := (qaD BK201.out 1).trans rfl; have hfz14_0 := qbZ BK201.out 0; have hfz14_1 := qbZ BK201.out 1; obtain ⟨Ao15, co15, eo15⟩ := Kd.R_slice HO199.out; subst eo15) | ((with_reducible refine qaV (f := 9) rfl ?_); refine qcL (some 40) rfl rfl Try.func9 (by kernel_rfl) rfl #[.slice Ao15 t196.length co15, .agg #[.int .i64 (-23622320128), .int .i64 (wrap64 (21474836480 + t200))], .int .i64 8] rfl (by (try simp only [List.map_toArray, List.map_cons, List.map_nil]); first | done | rfl | (simp only [List.length_drop, List.length_take]; rfl)) ?_; (with_reducible refine (qdH.calls _ _ t196 (-23622320128) (wrap64 (21474836480 + t200)) 8 t202 t205 t208 _ ?side1 ?side2 A8.out).mono ?_); (case side1 => refine (Kd.R_reads' (e := 31) (base := w.heap.size) (ok := fun k_ => (True ∧ k_ ≠ gb201)) (n := t196.length) (c := co15) ?_).2.2; exact (by (with_reducible repeat (first | apply Kd.R_alloc | apply Kd.R_drewN | apply Kd.R_drew)); exact (Kd.R_mono (Kd.R_far (p := ⟨gb201, 1, none⟩) (Kd.R_far (p := ⟨gb201, 0, none⟩) (Kd.R_mono HO199.out (fun k_ hk => (⟨hk, hk.2⟩ : _ ∧ k_ ≠ gb201))) (fun _ hk => hk.2) (.int .i64 (-23622320128))) (fun _ hk => hk.2) (.int .i64 (wrap64 (21474836480 + t200)))) (fun _ h_ => h_.1)))); (case side2 => exact (Kd.R_reads' HO199.out).2.1); rintro e w16 ⟨v203, v206, rfl, ho0, ho1, hb⟩; refine ⟨_, rfl, ?_⟩; replace HO195 := Aside0.mk (Kd.R_below (by (with_reducible repeat (first | apply Kd.R_alloc | apply Kd.R_drewN | apply Kd.R_drew)); exact (Kd.R_mono (Kd.R_far (p := ⟨gb201, 1, none⟩) (Kd.R_far (p := ⟨gb201, 0, none⟩) (Kd.R_types HO195.out BK201.out (by decide)) (fun _ hk => hk.2) (.int .i64 (-23622320128))) (fun _ hk => hk.2) (.int .i64 (wrap64 (21474836480 + t200)))) (fun _ h_ => h_.1))) hb); have HO204 := Aside0.mk (Kd.R_lower (Kd.R_newB (Kd.R_new' ho0 (Kd.R_lt (by (with_reducible repeat (first | apply Kd.R_alloc | apply Kd.R_drewN | apply Kd.R_drew)); exact (Kd.R_mono (Kd.R_far (p := ⟨gb201, 1, none⟩) (Kd.R_far (p := ⟨gb201, 0, none⟩) (Kd.R_mono HO199.out (fun k_ hk => (⟨hk, hk.2⟩ : _ ∧ k_ ≠ gb201))) (fun _ hk => hk.2) (.int .i64 (-23622320128))) (fun _ hk => hk.2) (.int .i64 (wrap64 (21474836480 + t200)))) (fun _ h_ => h_.1))))) (g := gb201) (o := .cells #[.int .i64 (-23622320128), .int .i64 (wrap64 (21474836480 + t200))] 31 (0, 0)) (by refine hp ?_; refine qdO (cs := #[.int .i64 (-23622320128), .int .i64 0]) ?_ 1 _ rfl; refine hp ?_; refine qdO (cs := #[.int .i64 0, .int .i64 0]) ?_ 0 _ rfl; exact h0 BK201.out)) (qbP (bq HB.out (.c GE201.out .n)))); have HO207 := Aside0.mk (Kd.R_lower (Kd.R_newB (Kd.R_new' ho1 (Kd.R_lt (by (with_reducible repeat (first | apply Kd.R_alloc | apply Kd.R_drewN | apply Kd.R_drew)); exact (Kd.R_mono (Kd.R_far (p := ⟨gb201, 1, none⟩) (Kd.R_far (p := ⟨gb201, 0, none⟩) (Kd.R_mono HO199.out (fun k_ hk => (⟨hk, hk.2⟩ : _ ∧ k_ ≠ gb201))) (fun _ hk => hk.2) (.int .i64 (-23622320128))) (fun _ hk => hk.2) (.int .i64 (wrap64 (21474836480 + t200)))) (fun _ h_ => h_.1))))) (g := gb201) (o := .cells #[.int .i64 (-23622320128), .int .i64 (wrap64 (21474836480 + t200))] 31 (0, 0)) (by refine hp ?_; refine qdO (cs := #[.int .i64 (-23622320128), .int .i64 0]) ?_ 1 _ rfl; refine hp ?_; refine qdO (cs := #[.int .i64 0, .int .i64 0]) ?_ 0 _ rfl; exact h0 BK201.out)) (qbP (bq HB.out (.c GE201.out .n)))); replace HO199 := Aside0.mk (Kd.R_mono (Kd.R_told (Kd.R_told (Kd.R_old (by (with_reducible repeat (first | apply Kd.R_alloc | apply Kd.R_drewN | apply Kd.R_drew)); exact (Kd.R_mono (Kd.R_far (p := ⟨gb201, 1, none⟩) (Kd.R_far (p := ⟨gb201, 0, none⟩) (Kd.R_mono HO199.out (fun k_ hk => (⟨hk, hk.2⟩ : _ ∧ k_ ≠ gb201))) (fun _ hk => hk.2) (.int .i64 (-23622320128))) (fun _ hk => hk.2) (.int .i64 (wrap64 (21474836480 + t200)))) (fun _ h_ => h_.1))) hb) (Kd.R_base ho0)) (Kd.R_base ho1)) (fun _ h_ => h_.1)); replace BK201 := Aside0.mk (qaM (g := gb201) (o := .cells #[.int .i64 (-23622320128), .int .i64 (wrap64 (21474836480 + t200))] 31 (0, 0)) (by refine hp ?_; refine qdO (cs := #[.int .i64 (-23622320128), .int .i64 0]) ?_ 1 _ rfl; refine hp ?_; refine qdO (cs := #[.int .i64 0, .int .i64 0]) ?_ 0 _ rfl; exact h0 BK201.out) hb); replace HB := Aside0.mk (qaC (bq HB.out (.c GE201.out .n)) hb); (try clear hb); (try clear hb2); (try clear hk); (try clear hi); (try clear ho0); (try clear ho1)))
  (try simp only [Act.put, List.setIfInBounds_toArray, List.set_cons_zero, List.set_cons_succ])
  go_cut [49] (fun v49 wc => ∃ (kq : Nat) (x49_8 : Bool), v49 = .bool x49_8 ∧ Aside0 (qaA.j0 kq t193 t196 t202 t205 x49_8 = some r) ∧ Aside0 (kq ≤ k) ∧ Aside0 (Kd.R (Kd.int .i64) 2 wc w.heap.size (fun _ => True) (.slice Ao11 t193.length co11) t193) ∧ Aside0 (Kd.R k31 31 wc w.heap.size (fun k_ => some k_ ≠ (v203 : Value).ownBlock ∧ some k_ ≠ (v206 : Value).ownBlock ∧ k_ ≠ gb201) (.slice Ao15 t196.length co15) t196) ∧ Aside0 (Kd.R k31 31 wc w.heap.size (fun k_ => some k_ ≠ ((.slice Ao15 t196.length co15) : Value).ownBlock ∧ some k_ ≠ (v206 : Value).ownBlock ∧ k_ ≠ gb201) v203 t202) ∧ Aside0 (Kd.R k31 31 wc w.heap.size (fun k_ => some k_ ≠ ((.slice Ao15 t196.length co15) : Value).ownBlock ∧ some k_ ≠ (v203 : Value).ownBlock ∧ k_ ≠ gb201) v206 t205) ∧ Aside0 (wc.heap[gb201]? = some (.cells #[.int .i64 (-23622320128), .int .i64 (wrap64 (21474836480 + t200))] 31 (0, 0))) ∧ Aside0 (Below w.heap.size w wc))
  case first =>
   have H := HC9.out
   clear HC9
   by_cases c17 : t197 = true
   ·subst c17
    have H1 : (qaA.j0 k t193 t196 t202 t205 (t208 != 0)) = some r := by rw [if_pos rfl] at H; exact H
    clear H
    have H := H1
    clear H1
    have H' := Aside0.mk H
    clear H
    go_wp2
    go_meet
    case rel => exact ⟨_, ((t208 != 0)), er, H', ⟨by first | omega | exact Nat.le_refl _⟩, ⟨rq HO195.out⟩, ⟨by (with_reducible repeat (first | apply Kd.R_alloc | apply Kd.R_drewN | apply Kd.R_drew)); exact Kd.R_mono HO199.out (fun _ hk => ⟨hk.1.2, ⟨hk.2, hk.1.1.2⟩⟩)⟩, ⟨by (with_reducible repeat (first | apply Kd.R_alloc | apply Kd.R_drewN | apply Kd.R_drew)); exact Kd.R_mono HO204.out (fun _ hk => ⟨hk.1.2, ⟨hk.1.1, hk.2⟩⟩)⟩, ⟨by (with_reducible repeat (first | apply Kd.R_alloc | apply Kd.R_drewN | apply Kd.R_drew)); exact Kd.R_mono HO207.out (fun _ hk => ⟨hk.1.2, ⟨hk.1.1, hk.2⟩⟩)⟩, ⟨h0 BK201.out⟩, ⟨bq HB.out (.c GE201.out .n)⟩⟩
   ·replace c17 := Bool.eq_false_iff.mpr c17
    subst c17
    have H1 : (qaA.j0 k t193 t196 t202 t205 true) = some r := by rw [if_neg (show ¬ (false = true) by decide)] at H; exact H
    clear H
    have H := H1
    clear H1
    have H' := Aside0.mk H
    clear H
    go_wp2
    go_meet
    case rel => exact ⟨_, (true), er, H', ⟨by first | omega | exact Nat.le_refl _⟩, ⟨rq HO195.out⟩, ⟨by (with_reducible repeat (first | apply Kd.R_alloc | apply Kd.R_drewN | apply Kd.R_drew)); exact Kd.R_mono HO199.out (fun _ hk => ⟨hk.1.2, ⟨hk.2, hk.1.1.2⟩⟩)⟩, ⟨by (with_reducible repeat (first | apply Kd.R_alloc | apply Kd.R_drewN | apply Kd.R_drew)); exact Kd.R_mono HO204.out (fun _ hk => ⟨hk.1.2, ⟨hk.1.1, hk.2⟩⟩)⟩, ⟨by (with_reducible repeat (first | apply Kd.R_alloc | apply Kd.R_drewN | apply Kd.R_drew)); exact Kd.R_mono HO207.out (fun _ hk => ⟨hk.1.2, ⟨hk.1.1, hk.2⟩⟩)⟩, ⟨h0 BK201.out⟩, ⟨bq HB.out (.c GE201.out .n)⟩⟩
  case rest =>
   clear HC9
   try clear c1
   try clear p2
   try clear c3
   try clear c4
   try clear c5
   try clear c6
   try clear p6
   try clear c7
   try clear c8
   try clear c9
   try clear c17
   try clear hcz14_0
   try clear hcz14_1
   try clear hfz14_0
   try clear hfz14_1
   obtain ⟨kq, x49_8, rfl, HA, HJ8, HO_5, HO_6, HO_9, HO_10, BK201, HB⟩ := hcut
   cases kq with
   | zero => exact absurd HA.out (by simp [qaA.j0])
   | succ kj8 =>
    have H := HA.out
    clear HA
    simp only [qaA.j0] at H
    by_cases c18 : x49_8 = true
    ·subst c18
     have H1 : (some false) = some r := by rw [if_pos rfl] at H; exact H
     clear H
     have H := H1
     clear H1
     obtain rfl := Option.some.inj H
     go_wp2
     go_ret
     exact ⟨by first | rfl | (simp [qbA, qa9] <;> rfl) | (simp [*, qbA, qa9] <;> rfl), bq HB.out (.c GE201.out .n)⟩
    ·as_aux_lemma =>
     replace c18 := Bool.eq_false_iff.mpr c18
     subst c18
     have H1 : (qaA.l0 kj8 t193 t196 t202 t205 0) = some r := by rw [if_neg (show ¬ (false = true) by decide)] at H; exact H
     clear H
     have H := H1
     clear H1
     have H' := Aside0.mk H
     clear H
     go_wp2
     go_loopg [12] kj8 (fun kq v12 w' => ∃ (x12_2 : Int), v12 = .int .i64 x12_2 ∧ Aside0 (qaA.l0 kq t193 t196 t202 t205 x12_2 = some r) ∧ Aside0 (kq ≤ kj8) ∧ Aside0 (Kd.R (Kd.int .i64) 2 w' w.heap.size (fun _ => True) (.slice Ao11 t193.length co11) t193) ∧ Aside0 (Kd.R k31 31 w' w.heap.size (fun k_ => some k_ ≠ (v203 : Value).ownBlock ∧ some k_ ≠ (v206 : Value).ownBlock ∧ k_ ≠ gb201) (.slice Ao15 t196.length co15) t196) ∧ Aside0 (Kd.R k31 31 w' w.heap.size (fun k_ => some k_ ≠ ((.slice Ao15 t196.length co15) : Value).ownBlock ∧ some k_ ≠ (v206 : Value).ownBlock ∧ k_ ≠ gb201) v203 t202) ∧ Aside0 (Kd.R k31 31 w' w.heap.size (fun k_ => some k_ ≠ ((.slice Ao15 t196.length co15) : Value).ownBlock ∧ some k_ ≠ (v203 : Value).ownBlock ∧ k_ ≠ gb201) v206 t205) ∧ Aside0 (w'.heap[gb201]? = some (.cells #[.int .i64 (-23622320128), .int .i64 (wrap64 (21474836480 + t200))] 31 (0, 0))) ∧ Aside0 (Below w.heap.size w w'))
     case atStart => exact ⟨(0), er, H', ⟨Nat.le_refl _⟩, ⟨rq HO_5.out⟩, ⟨rq HO_6.out⟩, ⟨rq HO_9.out⟩, ⟨rq HO_10.out⟩, ⟨h0 BK201.out⟩, ⟨bq HB.out (.c GE201.out .n)⟩⟩
     case round =>
      clear H'
      try clear c1
      try clear p2
      try clear c3
      try clear c4
      try clear c5
      try clear c6
      try clear p6
      try clear c7
      try clear c8
      try clear c9
      try clear c17
      try clear c18
      try clear hcz14_0
      try clear hcz14_1
      try clear hfz14_0
      try clear hfz14_1
      try clear p2
      try clear p6
      obtain ⟨x12_2, rfl, HA, HK2, HO_5, HO_6, HO_9, HO_10, BK201, HB⟩ := hrel
      cases gk with
      | zero => exact absurd HA.out (by simp [qaA.l0])
      | succ k2 =>
       have H := HA.out
       clear HA
       simp only [qaA.l0] at H
       by_cases c19 : x12_2 < (t193.length : Int)
       ·as_aux_lemma =>
        rw [if_pos c19] at H
        have c19b0 : decide (x12_2 < (t193.length : Int)) = true := decide_eq_true c19
        clear c19
        have H' := Aside0.mk H
        clear H
        go_wp2
        go_loopg [13, 14] k2 (fun kq v13 v14 w' => ∃ (x13_3 : Bool) (x14_3 : Int), v13 = .bool x13_3 ∧ v14 = .int .i64 x14_3 ∧ Aside0 (qaA.l1 kq t193 t196 t202 t205 x12_2 x13_3 x14_3 = some r) ∧ Aside0 (kq ≤ k2) ∧ Aside0 (Kd.R (Kd.int .i64) 2 w' w.heap.size (fun _ => True) (.slice Ao11 t193.length co11) t193) ∧ Aside0 (Kd.R k31 31 w' w.heap.size (fun k_ => some k_ ≠ (v203 : Value).ownBlock ∧ some k_ ≠ (v206 : Value).ownBlock ∧ k_ ≠ gb201) (.slice Ao15 t196.length co15) t196) ∧ Aside0 (Kd.R k31 31 w' w.heap.size (fun k_ => some k_ ≠ ((.slice Ao15 t196.length co15) : Value).ownBlock ∧ some k_ ≠ (v206 : Value).ownBlock ∧ k_ ≠ gb201) v203 t202) ∧ Aside0 (Kd.R k31 31 w' w.heap.size (fun k_ => some k_ ≠ ((.slice Ao15 t196.length co15) : Value).ownBlock ∧ some k_ ≠ (v203 : Value).ownBlock ∧ k_ ≠ gb201) v206 t205) ∧ Aside0 (w'.heap[gb201]? = some (.cells #[.int .i64 (-23622320128), .int .i64 (wrap64 (21474836480 + t200))] 31 (0, 0))) ∧ Aside0 (Below w.heap.size w w'))
        case atStart => exact ⟨(false), (0), er, er, H', ⟨Nat.le_refl _⟩, ⟨rq HO_5.out⟩, ⟨rq HO_6.out⟩, ⟨rq HO_9.out⟩, ⟨rq HO_10.out⟩, ⟨h0 BK201.out⟩, ⟨bq HB.out (.c GE201.out .n)⟩⟩
        case round =>
         clear H'
         try clear c1
         try clear p2
         try clear c3
         try clear c4
         try clear c5
         try clear c6
         try clear p6
         try clear c7
         try clear c8
         try clear c9
         try clear c17
         try clear c18
         try clear c19
         try clear c19b0
         try clear hcz14_0
         try clear hcz14_1
         try clear hfz14_0
         try clear hfz14_1
         try clear p2
         try clear p6
         obtain ⟨x13_3, x14_3, rfl, rfl, HA, HK3, HO_5, HO_6, HO_9, HO_10, BK201, HB⟩ := hrel
         cases gk with
         | zero => exact absurd HA.out (by simp [qaA.l1])
         | succ k3 =>
          have H := HA.out
          clear HA
          simp only [qaA.l1] at H
          by_cases c20 : x14_3 < (t202.length : Int)
          ·as_aux_lemma =>
           rw [if_pos c20] at H
           have c20b0 : decide (x14_3 < (t202.length : Int)) = true := decide_eq_true c20
           clear c20
           by_cases c21 : x13_3 = true
           ·subst c21
            have H1 : (qaA.l1 k3 t193 t196 t202 t205 x12_2 true (wrap64 (x14_3 + 1))) = some r := by rw [if_pos rfl] at H; exact H
            clear H
            have H := H1
            clear H1
            have H' := Aside0.mk H
            clear H
            obtain ⟨Ao22, co22, eo22⟩ := Kd.R_slice HO_9.out
            subst eo22
            try go_wp2
            replace HO_5 := Aside0.mk (Kd.R_drew HO_5.out)
            replace HO_6 := Aside0.mk (Kd.R_drew HO_6.out)
            replace HO_9 := Aside0.mk (Kd.R_drew HO_9.out)
            replace HO_10 := Aside0.mk (Kd.R_drew HO_10.out)
            replace BK201 := Aside0.mk (qbQ BK201.out)
            replace HB := Aside0.mk (qbH HB.out)
            refine qd3 (n := 14) (S := fun w' => True) (ds := []) #[false, false, false, false, false, false, false, false, false, false, false, false, false, false] (by kernel_rfl) rfl rfl trivial (fun hHeld => ?_); refine qdW qaA.tab16 qaA.bits16 (fun HT_ HW_ => ?_)
            generalize wr.drew = w23 at HO_5 HO_6 HO_9 HO_10 BK201 HB hHeld ⊢
            refine pA 0 (some 62) HT_ ?_
            refine pA 1 (some 63) HT_ ?_
            refine pB 2 (some 64) HT_ ?_
            refine pB 3 (some 65) HT_ ?_
            refine pB 4 (some 66) HT_ ?_
            refine pB 5 (some 67) HT_ ?_
            refine pB 6 (some 68) HT_ ?_
            refine pB 7 (some 69) HT_ ?_
            refine pB 8 (some 70) HT_ ?_
            refine pB 9 (some 71) HT_ ?_
            refine pB 10 (some 72) HT_ ?_
            refine pB 11 (some 73) HT_ ?_
            refine pA 12 (some 74) HT_ ?_
            refine pA 13 (some 13) HT_ ?_
            refine qfD (qe3 HT_.out (by kernel_rfl)) ?_
            try go_wp2
            go_roundg k3
            case measure => have := HJ8.out; have := HK2.out; have := HK3.out; omega
            case rel => exact ⟨(true), (wrap64 (x14_3 + 1)), er, er, H', ⟨by have := HJ8.out; have := HK2.out; have := HK3.out; omega⟩, ⟨rq HO_5.out⟩, ⟨rq HO_6.out⟩, ⟨rq HO_9.out⟩, ⟨rq HO_10.out⟩, ⟨h0 BK201.out⟩, ⟨bq HB.out (.c GE201.out .n)⟩⟩
           ·as_aux_lemma =>
            replace c21 := Bool.eq_false_iff.mpr c21
            subst c21
            have H1 : (if 0 ≤ x14_3 then (if 0 ≤ x12_2 then (if x12_2 < (t193.length : Int) then ((qbN.f ((qaN t202 x14_3).f0) ((qaN t202 x14_3).f1) (wrap64 ((rd t193 x12_2) * 4294967296))).bind fun t211 => (qaA.l1 k3 t193 t196 t202 t205 x12_2 t211 (wrap64 (x14_3 + 1)))) else (none)) else (none)) else (none)) = some r := by rw [if_neg (show ¬ (false = true) by decide)] at H; exact H
            clear H
            have H := H1
            clear H1
            by_cases c24 : 0 ≤ x14_3
            ·as_aux_lemma =>
             rw [if_pos c24] at H
             have c24b0 : decide (0 ≤ x14_3) = true := decide_eq_true c24
             clear c24
             by_cases c25 : 0 ≤ x12_2
             ·as_aux_lemma =>
              rw [if_pos c25] at H
              have c25b0 : decide (0 ≤ x12_2) = true := decide_eq_true c25
              clear c25
              by_cases c26 : x12_2 < (t193.length : Int)
              ·as_aux_lemma =>
               rw [if_pos c26] at H
               have c26b0 : decide (x12_2 < (t193.length : Int)) = true := decide_eq_true c26
               clear c26
               replace H := Option.bind_eq_some_iff.mp H
               obtain ⟨t211, A270, H⟩ := H
               replace H : (qaA.l1 k3 t193 t196 t202 t205 x12_2 t211 (wrap64 (x14_3 + 1))) = some r := H
               have A27 := Aside0.mk A270
               clear A270
               have H' := Aside0.mk H
               clear H
               obtain ⟨Ao28, co28, eo28⟩ := Kd.R_slice HO_9.out
               subst eo28
               try go_wp2
               replace HO_5 := Aside0.mk (Kd.R_drew HO_5.out)
               replace HO_6 := Aside0.mk (Kd.R_drew HO_6.out)
               replace HO_9 := Aside0.mk (Kd.R_drew HO_9.out)
               replace HO_10 := Aside0.mk (Kd.R_drew HO_10.out)
               replace BK201 := Aside0.mk (qbQ BK201.out)
               replace HB := Aside0.mk (qbH HB.out)
               have p209 : 0 ≤ (x14_3 : Int) := od
               have q209 : x14_3 < (t202.length : Int) := od
               obtain ⟨ad209, e209, hx209_0, hx209_1⟩ := qe8 (Kd.R_reads' HO_9.out).2.2 x14_3 p209 q209
               cases e209
               replace p209 := eq_true p209
               replace q209 := eq_true q209
               have p210 : 0 ≤ (x12_2 : Int) := od
               have q210 : x12_2 < (t193.length : Int) := od
               obtain ⟨ad210, e210, hx210_0⟩ := Kd.at_int (Kd.R_reads' HO_5.out).2.2 x12_2 p210 q210
               cases e210
               replace p210 := eq_true p210
               replace q210 := eq_true q210
               refine qd3 (n := 14) (S := fun w' => w'.cell? (ad209.add ((x14_3).toNat * 2)) = some (.int .i64 ((qaN t202 x14_3).f0)) ∧ w'.cell? ⟨(ad209.add ((x14_3).toNat * 2)).block, (ad209.add ((x14_3).toNat * 2)).off + 1, none⟩ = some (.int .i64 ((qaN t202 x14_3).f1)) ∧ w'.cell? (ad210.add (x12_2).toNat) = some (.int .i64 (rd t193 x12_2))) (ds := []) #[false, false, false, false, false, false, false, false, false, false, false, false, false, false] (by kernel_rfl) rfl rfl ⟨hx209_0, hx209_1, hx210_0⟩ (fun hHeld => ?_); refine qdW qaA.tab16 qaA.bits16 (fun HT_ HW_ => ?_)
               generalize wr.drew = w29 at HO_5 HO_6 HO_9 HO_10 BK201 HB hx209_0 hx209_1 hx210_0 hHeld ⊢
               refine pA 0 (some 62) HT_ ?_
               refine pA 1 (some 63) HT_ ?_
               refine pA 2 (some 64) HT_ ?_
               refine pA 3 (some 65) HT_ ?_
               refine pA 4 (some 66) HT_ ?_
               refine pA 6 (some 68) HT_ ?_
               refine pA 7 (some 69) HT_ ?_
               refine pA 8 (some 70) HT_ ?_
               refine tA 5 (some 67) HT_ HW_ hHeld ?_
               refine tA 9 (some 71) HT_ HW_ hHeld ?_
               refine pA 10 (some 72) HT_ ?_
               refine oA 11 (some 73) HT_ fun K hK => ?_
               refine gs Try.func10 #[.agg #[.int .i64 ((qaN t202 x14_3).f0), .int .i64 ((qaN t202 x14_3).f1)], .int .i64 (wrap64 ((rd t193 x12_2) * 4294967296))] rfl ?_
               with_reducible refine (qbN.calls ((qaN t202 x14_3).f0) ((qaN t202 x14_3).f1) (wrap64 ((rd t193 x12_2) * 4294967296)) t211 _ A27.out).mono ?_
               rintro e w30 ⟨rfl, hb⟩
               have HS0_ := hcb hb hHeld.1
               have HS1_ := hcb hb hHeld.2.1
               have HS2_ := hcb hb hHeld.2.2
               refine ⟨_, rfl, ?_⟩
               replace HO_5 := Aside0.mk (Kd.R_below (rq HO_5.out) hb)
               replace HO_6 := Aside0.mk (Kd.R_below (rq HO_6.out) hb)
               replace HO_9 := Aside0.mk (Kd.R_below (rq HO_9.out) hb)
               replace HO_10 := Aside0.mk (Kd.R_below (rq HO_10.out) hb)
               replace BK201 := Aside0.mk (qaM (h0 BK201.out) hb)
               replace HB := Aside0.mk (qaC (bq HB.out (.c GE201.out .n)) hb)
               (try clear hb)
               (try clear hb2)
               (try clear hk)
               (try clear hi)
               refine hK.out _ _ ⟨HS0_, HS1_, HS2_⟩ (fun hHeld => ?_)
               clear hK K
               refine nA (some 73) ?_
               refine pA 12 (some 74) HT_ ?_
               refine pA 13 (some 13) HT_ ?_
               refine qfD (qe3 HT_.out (by kernel_rfl)) ?_
               try go_wp2
               go_roundg k3
               case measure => have := HJ8.out; have := HK2.out; have := HK3.out; omega
               case rel => exact ⟨(t211), (wrap64 (x14_3 + 1)), er, er, H', ⟨by have := HJ8.out; have := HK2.out; have := HK3.out; omega⟩, ⟨rq HO_5.out⟩, ⟨rq HO_6.out⟩, ⟨rq HO_9.out⟩, ⟨rq HO_10.out⟩, ⟨h0 BK201.out⟩, ⟨bq HB.out (.c GE201.out .n)⟩⟩
              ·rw [if_neg c26] at H
               exact absurd H (by simp)
             ·rw [if_neg c25] at H
              exact absurd H (by simp)
            ·rw [if_neg c24] at H
             exact absurd H (by simp)
          ·as_aux_lemma =>
           rw [if_neg c20] at H
           have c20b0 : decide (x14_3 < (t202.length : Int)) = false := decide_eq_false c20
           clear c20
           have H' := Aside0.mk H
           clear H
           obtain ⟨Ao31, co31, eo31⟩ := Kd.R_slice HO_9.out
           subst eo31
           go_wp2
           go_loopg [13, 15] k3 (fun kq v13 v15 w' => ∃ (x13_4 : Bool) (x15_4 : Int), v13 = .bool x13_4 ∧ v15 = .int .i64 x15_4 ∧ Aside0 (qaA.l2 kq t193 t196 t202 t205 x12_2 x13_4 x15_4 = some r) ∧ Aside0 (kq ≤ k3) ∧ Aside0 (Kd.R (Kd.int .i64) 2 w' w.heap.size (fun _ => True) (.slice Ao11 t193.length co11) t193) ∧ Aside0 (Kd.R k31 31 w' w.heap.size (fun k_ => some k_ ≠ ((.slice Ao31 t202.length co31) : Value).ownBlock ∧ some k_ ≠ (v206 : Value).ownBlock ∧ k_ ≠ gb201) (.slice Ao15 t196.length co15) t196) ∧ Aside0 (Kd.R k31 31 w' w.heap.size (fun k_ => some k_ ≠ ((.slice Ao15 t196.length co15) : Value).ownBlock ∧ some k_ ≠ (v206 : Value).ownBlock ∧ k_ ≠ gb201) (.slice Ao31 t202.length co31) t202) ∧ Aside0 (Kd.R k31 31 w' w.heap.size (fun k_ => some k_ ≠ ((.slice Ao15 t196.length co15) : Value).ownBlock ∧ some k_ ≠ ((.slice Ao31 t202.length co31) : Value).ownBlock ∧ k_ ≠ gb201) v206 t205) ∧ Aside0 (w'.heap[gb201]? = some (.cells #[.int .i64 (-23622320128), .int .i64 (wrap64 (21474836480 + t200))] 31 (0, 0))) ∧ Aside0 (Below w.heap.size w w'))
           case atStart => exact ⟨(x13_3), (0), er, er, H', ⟨Nat.le_refl _⟩, ⟨rq HO_5.out⟩, ⟨rq HO_6.out⟩, ⟨rq HO_9.out⟩, ⟨rq HO_10.out⟩, ⟨h0 BK201.out⟩, ⟨bq HB.out (.c GE201.out .n)⟩⟩
           case round =>
            clear H'
            try clear c1
            try clear c2
            try clear p2
            try clear q2
            try clear hx2
            try clear c3
            try clear c4
            try clear c5
            try clear c6
            try clear p6
            try clear c7
            try clear c8
            try clear c9
            try clear c10
            try clear c17
            try clear c18
            try clear c19
            try clear c19b0
            try clear c20
            try clear c20b0
            try clear p20
            try clear q20
            try clear hx20
            try clear c21
            try clear p21
            try clear q21
            try clear hx21
            try clear c24
            try clear c24b0
            try clear c25
            try clear c25b0
            try clear c26
            try clear c26b0
            try clear hcz14_0
            try clear hcz14_1
            try clear hfz14_0
            try clear hfz14_1
            try clear hx209_0
            try clear hx209_1
            try clear hx210_0
            try clear p2
            try clear p209
            try clear p210
            try clear p6
            try clear q209
            try clear q210
            obtain ⟨x13_4, x15_4, rfl, rfl, HA, HK4, HO_5, HO_6, HO_9, HO_10, BK201, HB⟩ := hrel
            cases gk with
            | zero => exact absurd HA.out (by simp [qaA.l2])
            | succ k4 =>
             have H := HA.out
             clear HA
             simp only [qaA.l2] at H
             by_cases c32 : x15_4 < (t205.length : Int)
             ·as_aux_lemma =>
              rw [if_pos c32] at H
              have c32b0 : decide (x15_4 < (t205.length : Int)) = true := decide_eq_true c32
              clear c32
              by_cases c33 : x13_4 = true
              ·subst c33
               have H1 : (qaA.l2 k4 t193 t196 t202 t205 x12_2 true (wrap64 (x15_4 + 1))) = some r := by rw [if_pos rfl] at H; exact H
               clear H
               have H := H1
               clear H1
               have H' := Aside0.mk H
               clear H
               obtain ⟨Ao34, co34, eo34⟩ := Kd.R_slice HO_10.out
               subst eo34
               try go_wp2
               replace HO_5 := Aside0.mk (Kd.R_drew HO_5.out)
               replace HO_6 := Aside0.mk (Kd.R_drew HO_6.out)
               replace HO_9 := Aside0.mk (Kd.R_drew HO_9.out)
               replace HO_10 := Aside0.mk (Kd.R_drew HO_10.out)
               replace BK201 := Aside0.mk (qbQ BK201.out)
               replace HB := Aside0.mk (qbH HB.out)
               refine qd3 (n := 14) (S := fun w' => True) (ds := []) #[false, false, false, false, false, false, false, false, false, false, false, false, false, false] (by kernel_rfl) rfl rfl trivial (fun hHeld => ?_); refine qdW qaA.tab20 qaA.bits20 (fun HT_ HW_ => ?_)
               generalize wr.drew = w35 at HO_5 HO_6 HO_9 HO_10 BK201 HB hHeld ⊢
               refine pA 0 (some 81) HT_ ?_
               refine pA 1 (some 82) HT_ ?_
               refine pB 2 (some 83) HT_ ?_
               refine pB 3 (some 84) HT_ ?_
               refine pB 4 (some 85) HT_ ?_
               refine pB 5 (some 86) HT_ ?_
               refine pB 6 (some 87) HT_ ?_
               refine pB 7 (some 88) HT_ ?_
               refine pB 8 (some 89) HT_ ?_
               refine pB 9 (some 90) HT_ ?_
               refine pB 10 (some 91) HT_ ?_
               refine pB 11 (some 92) HT_ ?_
               refine pA 12 (some 93) HT_ ?_
               refine pA 13 (some 13) HT_ ?_
               refine qfD (qe3 HT_.out (by kernel_rfl)) ?_
               try go_wp2
               go_roundg k4
               case measure => have := HJ8.out; have := HK2.out; have := HK3.out; have := HK4.out; omega
               case rel => exact ⟨(true), (wrap64 (x15_4 + 1)), er, er, H', ⟨by have := HJ8.out; have := HK2.out; have := HK3.out; have := HK4.out; omega⟩, ⟨rq HO_5.out⟩, ⟨rq HO_6.out⟩, ⟨rq HO_9.out⟩, ⟨rq HO_10.out⟩, ⟨h0 BK201.out⟩, ⟨bq HB.out (.c GE201.out .n)⟩⟩
              ·as_aux_lemma =>
               replace c33 := Bool.eq_false_iff.mpr c33
               subst c33
               have H1 : (if 0 ≤ x15_4 then (if 0 ≤ x12_2 then (if x12_2 < (t193.length : Int) then ((qbN.f ((qaN t205 x15_4).f0) ((qaN t205 x15_4).f1) (wrap64 ((rd t193 x12_2) * 4294967296))).bind fun t214 => (qaA.l2 k4 t193 t196 t202 t205 x12_2 t214 (wrap64 (x15_4 + 1)))) else (none)) else (none)) else (none)) = some r := by rw [if_neg (show ¬ (false = true) by decide)] at H; exact H
               clear H
               have H := H1
               clear H1
               by_cases c36 : 0 ≤ x15_4
               ·as_aux_lemma =>
                rw [if_pos c36] at H
                have c36b0 : decide (0 ≤ x15_4) = true := decide_eq_true c36
                clear c36
                by_cases c37 : 0 ≤ x12_2
                ·as_aux_lemma =>
                 rw [if_pos c37] at H
                 have c37b0 : decide (0 ≤ x12_2) = true := decide_eq_true c37
                 clear c37
                 by_cases c38 : x12_2 < (t193.length : Int)
                 ·as_aux_lemma =>
                  rw [if_pos c38] at H
                  have c38b0 : decide (x12_2 < (t193.length : Int)) = true := decide_eq_true c38
                  clear c38
                  replace H := Option.bind_eq_some_iff.mp H
                  obtain ⟨t214, A390, H⟩ := H
                  replace H : (qaA.l2 k4 t193 t196 t202 t205 x12_2 t214 (wrap64 (x15_4 + 1))) = some r := H
                  have A39 := Aside0.mk A390
                  clear A390
                  have H' := Aside0.mk H
                  clear H
                  obtain ⟨Ao40, co40, eo40⟩ := Kd.R_slice HO_10.out
                  subst eo40
                  try go_wp2
                  replace HO_5 := Aside0.mk (Kd.R_drew HO_5.out)
                  replace HO_6 := Aside0.mk (Kd.R_drew HO_6.out)
                  replace HO_9 := Aside0.mk (Kd.R_drew HO_9.out)
                  replace HO_10 := Aside0.mk (Kd.R_drew HO_10.out)
                  replace BK201 := Aside0.mk (qbQ BK201.out)
                  replace HB := Aside0.mk (qbH HB.out)
                  have p212 : 0 ≤ (x15_4 : Int) := od
                  have q212 : x15_4 < (t205.length : Int) := od
                  obtain ⟨ad212, e212, hx212_0, hx212_1⟩ := qe8 (Kd.R_reads' HO_10.out).2.2 x15_4 p212 q212
                  cases e212
                  replace p212 := eq_true p212
                  replace q212 := eq_true q212
                  have p213 : 0 ≤ (x12_2 : Int) := od
                  have q213 : x12_2 < (t193.length : Int) := od
                  obtain ⟨ad213, e213, hx213_0⟩ := Kd.at_int (Kd.R_reads' HO_5.out).2.2 x12_2 p213 q213
                  cases e213
                  replace p213 := eq_true p213
                  replace q213 := eq_true q213
                  refine qd3 (n := 14) (S := fun w' => w'.cell? (ad212.add ((x15_4).toNat * 2)) = some (.int .i64 ((qaN t205 x15_4).f0)) ∧ w'.cell? ⟨(ad212.add ((x15_4).toNat * 2)).block, (ad212.add ((x15_4).toNat * 2)).off + 1, none⟩ = some (.int .i64 ((qaN t205 x15_4).f1)) ∧ w'.cell? (ad213.add (x12_2).toNat) = some (.int .i64 (rd t193 x12_2))) (ds := []) #[false, false, false, false, false, false, false, false, false, false, false, false, false, false] (by kernel_rfl) rfl rfl ⟨hx212_0, hx212_1, hx213_0⟩ (fun hHeld => ?_); refine qdW qaA.tab20 qaA.bits20 (fun HT_ HW_ => ?_)
                  generalize wr.drew = w41 at HO_5 HO_6 HO_9 HO_10 BK201 HB hx212_0 hx212_1 hx213_0 hHeld ⊢
                  refine pA 0 (some 81) HT_ ?_
                  refine pA 1 (some 82) HT_ ?_
                  refine pA 2 (some 83) HT_ ?_
                  refine pA 3 (some 84) HT_ ?_
                  refine pA 4 (some 85) HT_ ?_
                  refine pA 6 (some 87) HT_ ?_
                  refine pA 7 (some 88) HT_ ?_
                  refine pA 8 (some 89) HT_ ?_
                  refine tA 5 (some 86) HT_ HW_ hHeld ?_
                  refine tA 9 (some 90) HT_ HW_ hHeld ?_
                  refine pA 10 (some 91) HT_ ?_
                  refine oA 11 (some 92) HT_ fun K hK => ?_
                  refine gs Try.func10 #[.agg #[.int .i64 ((qaN t205 x15_4).f0), .int .i64 ((qaN t205 x15_4).f1)], .int .i64 (wrap64 ((rd t193 x12_2) * 4294967296))] rfl ?_
                  with_reducible refine (qbN.calls ((qaN t205 x15_4).f0) ((qaN t205 x15_4).f1) (wrap64 ((rd t193 x12_2) * 4294967296)) t214 _ A39.out).mono ?_
                  rintro e w42 ⟨rfl, hb⟩
                  have HS0_ := hcb hb hHeld.1
                  have HS1_ := hcb hb hHeld.2.1
                  have HS2_ := hcb hb hHeld.2.2
                  refine ⟨_, rfl, ?_⟩
                  replace HO_5 := Aside0.mk (Kd.R_below (rq HO_5.out) hb)
                  replace HO_6 := Aside0.mk (Kd.R_below (rq HO_6.out) hb)
                  replace HO_9 := Aside0.mk (Kd.R_below (rq HO_9.out) hb)
                  replace HO_10 := Aside0.mk (Kd.R_below (rq HO_10.out) hb)
                  replace BK201 := Aside0.mk (qaM (h0 BK201.out) hb)
                  replace HB := Aside0.mk (qaC (bq HB.out (.c GE201.out .n)) hb)
                  (try clear hb)
                  (try clear hb2)
                  (try clear hk)
                  (try clear hi)
                  refine hK.out _ _ ⟨HS0_, HS1_, HS2_⟩ (fun hHeld => ?_)
                  clear hK K
                  refine nA (some 92) ?_
                  refine pA 12 (some 93) HT_ ?_
                  refine pA 13 (some 13) HT_ ?_
                  refine qfD (qe3 HT_.out (by kernel_rfl)) ?_
                  try go_wp2
                  go_roundg k4
                  case measure => have := HJ8.out; have := HK2.out; have := HK3.out; have := HK4.out; omega
                  case rel => exact ⟨(t214), (wrap64 (x15_4 + 1)), er, er, H', ⟨by have := HJ8.out; have := HK2.out; have := HK3.out; have := HK4.out; omega⟩, ⟨rq HO_5.out⟩, ⟨rq HO_6.out⟩, ⟨rq HO_9.out⟩, ⟨rq HO_10.out⟩, ⟨h0 BK201.out⟩, ⟨bq HB.out (.c GE201.out .n)⟩⟩
                 ·rw [if_neg c38] at H
                  exact absurd H (by simp)
                ·rw [if_neg c37] at H
                 exact absurd H (by simp)
               ·rw [if_neg c36] at H
                exact absurd H (by simp)
             ·as_aux_lemma =>
              rw [if_neg c32] at H
              have c32b0 : decide (x15_4 < (t205.length : Int)) = false := decide_eq_false c32
              clear c32
              by_cases c43 : x13_4 = true
              ·as_aux_lemma =>
               subst c43
               have H1 : (if 0 ≤ x12_2 then (if x12_2 < (t193.length : Int) then ((qa7.f (rd t193 x12_2)).bind fun bt216 => ((qaH.f t196 bt216.1 bt216.2).bind fun bt218 => ((qbN.f bt218.1 bt218.2 0).bind fun t220 => (if t220 = true then (qaA.l0 k4 t193 t196 t202 t205 (wrap64 (x12_2 + 1))) else (some false))))) else (none)) else (none)) = some r := by rw [if_pos rfl] at H; exact H
               clear H
               have H := H1
               clear H1
               by_cases c44 : 0 ≤ x12_2
               ·as_aux_lemma =>
                rw [if_pos c44] at H
                have c44b0 : decide (0 ≤ x12_2) = true := decide_eq_true c44
                clear c44
                by_cases c45 : x12_2 < (t193.length : Int)
                ·as_aux_lemma =>
                 rw [if_pos c45] at H
                 have c45b0 : decide (x12_2 < (t193.length : Int)) = true := decide_eq_true c45
                 clear c45
                 replace H := Option.bind_eq_some_iff.mp H
                 obtain ⟨⟨t216, t217⟩, A460, H⟩ := H
                 replace H : ((qaH.f t196 t216 t217).bind fun bt218 => ((qbN.f bt218.1 bt218.2 0).bind fun t220 => (if t220 = true then (qaA.l0 k4 t193 t196 t202 t205 (wrap64 (x12_2 + 1))) else (some false)))) = some r := H
                 have A46 := Aside0.mk A460
                 clear A460
                 replace H := Option.bind_eq_some_iff.mp H
                 obtain ⟨⟨t218, t219⟩, A470, H⟩ := H
                 replace H : ((qbN.f t218 t219 0).bind fun t220 => (if t220 = true then (qaA.l0 k4 t193 t196 t202 t205 (wrap64 (x12_2 + 1))) else (some false))) = some r := H
                 have A47 := Aside0.mk A470
                 clear A470
                 replace H := Option.bind_eq_some_iff.mp H
                 obtain ⟨t220, A480, H⟩ := H
                 replace H : (if t220 = true then (qaA.l0 k4 t193 t196 t202 t205 (wrap64 (x12_2 + 1))) else (some false)) = some r := H
                 have A48 := Aside0.mk A480
                 clear A480
                 by_cases c49 : t220 = true
                 ·subst c49
                  have H1 : (qaA.l0 k4 t193 t196 t202 t205 (wrap64 (x12_2 + 1))) = some r := by rw [if_pos rfl] at H; exact H
                  clear H
                  have H := H1
                  clear H1
                  have H' := Aside0.mk H
                  clear H
                  obtain ⟨Ao50, co50, eo50⟩ := Kd.R_slice HO_10.out
                  subst eo50
                  have p215 : 0 ≤ (x12_2 : Int) := od
                  have q215 : x12_2 < (t193.length : Int) := od
                  obtain ⟨ad215, e215, hx215_0⟩ := Kd.at_int (Kd.R_reads' HO_5.out).2.2 x12_2 p215 q215
                  cases e215
                  replace p215 := eq_true p215
                  replace q215 := eq_true q215
                  go_wp2_with (first | (go_at_call 12; (with_reducible refine (qa7.calls (rd t193 x12_2) t216 t217 _ A46.out).mono ?_); rintro e w51 ⟨rfl, hb⟩; replace HO_5 := Aside0.mk (Kd.R_below (rq HO_5.out) hb); replace HO_6 := Aside0.mk (Kd.R_below (rq HO_6.out) hb); replace HO_9 := Aside0.mk (Kd.R_below (rq HO_9.out) hb); replace HO_10 := Aside0.mk (Kd.R_below (rq HO_10.out) hb); replace BK201 := Aside0.mk (qaM (h0 BK201.out) hb); replace HB := Aside0.mk (qaC (bq HB.out (.c GE201.out .n)) hb); (try clear hb); (try clear hb2); (try clear hk); (try clear hi)) | (go_at_call 11; (with_reducible refine (qaH.calls _ _ t196 t216 t217 t218 t219 _ ?side1 ?side2 A47.out).mono ?_); (case side1 => repeat (first | exact (Kd.R_reads' HO_6.out).2.2 | (with_reducible refine Kd.C_alloc ?_ _) | (with_reducible refine Kd.C_drewN ?_ _) | (with_reducible refine Kd.C_drew ?_))); (case side2 => exact (Kd.R_reads' HO_6.out).2.1); rintro e w52 ⟨rfl, hb⟩; replace HO_5 := Aside0.mk (Kd.R_below (rq HO_5.out) hb); replace HO_6 := Aside0.mk (Kd.R_below (rq HO_6.out) hb); replace HO_9 := Aside0.mk (Kd.R_below (rq HO_9.out) hb); replace HO_10 := Aside0.mk (Kd.R_below (rq HO_10.out) hb); replace BK201 := Aside0.mk (qaM (h0 BK201.out) hb); replace HB := Aside0.mk (qaC (bq HB.out (.c GE201.out .n)) hb); (try clear hb); (try clear hb2); (try clear hk); (try clear hi)) | (go_at_call 10; (with_reducible refine (qbN.calls t218 t219 0 true _ A48.out).mono ?_); rintro e w53 ⟨rfl, hb⟩; replace HO_5 := Aside0.mk (Kd.R_below (rq HO_5.out) hb); replace HO_6 := Aside0.mk (Kd.R_below (rq HO_6.out) hb); replace HO_9 := Aside0.mk (Kd.R_below (rq HO_9.out) hb); replace HO_10 := Aside0.mk (Kd.R_below (rq HO_10.out) hb); replace BK201 := Aside0.mk (qaM (h0 BK201.out) hb); replace HB := Aside0.mk (qaC (bq HB.out (.c GE201.out .n)) hb); (try clear hb); (try clear hb2); (try clear hk); (try clear hi)))
                  go_roundg k4
                  case measure => have := HJ8.out; have := HK2.out; have := HK3.out; have := HK4.out; omega
                  case rel => exact ⟨(wrap64 (x12_2 + 1)), er, H', ⟨by have := HJ8.out; have := HK2.out; have := HK3.out; have := HK4.out; omega⟩, ⟨rq HO_5.out⟩, ⟨rq HO_6.out⟩, ⟨rq HO_9.out⟩, ⟨rq HO_10.out⟩, ⟨h0 BK201.out⟩, ⟨bq HB.out (.c GE201.out .n)⟩⟩
                 ·replace c49 := Bool.eq_false_iff.mpr c49
                  subst c49
                  have H1 : (some false) = some r := by rw [if_neg (show ¬ (false = true) by decide)] at H; exact H
                  clear H
                  have H := H1
                  clear H1
                  obtain rfl := Option.some.inj H
                  obtain ⟨Ao54, co54, eo54⟩ := Kd.R_slice HO_10.out
                  subst eo54
                  have p215 : 0 ≤ (x12_2 : Int) := od
                  have q215 : x12_2 < (t193.length : Int) := od
                  obtain ⟨ad215, e215, hx215_0⟩ := Kd.at_int (Kd.R_reads' HO_5.out).2.2 x12_2 p215 q215
                  cases e215
                  replace p215 := eq_true p215
                  replace q215 := eq_true q215
                  go_wp2_with (first | (go_at_call 12; (with_reducible refine (qa7.calls (rd t193 x12_2) t216 t217 _ A46.out).mono ?_); rintro e w55 ⟨rfl, hb⟩; replace HO_5 := Aside0.mk (Kd.R_below (rq HO_5.out) hb); replace HO_6 := Aside0.mk (Kd.R_below (rq HO_6.out) hb); replace HO_9 := Aside0.mk (Kd.R_below (rq HO_9.out) hb); replace HO_10 := Aside0.mk (Kd.R_below (rq HO_10.out) hb); replace BK201 := Aside0.mk (qaM (h0 BK201.out) hb); replace HB := Aside0.mk (qaC (bq HB.out (.c GE201.out .n)) hb); (try clear hb); (try clear hb2); (try clear hk); (try clear hi)) | (go_at_call 11; (with_reducible refine (qaH.calls _ _ t196 t216 t217 t218 t219 _ ?side1 ?side2 A47.out).mono ?_); (case side1 => repeat (first | exact (Kd.R_reads' HO_6.out).2.2 | (with_reducible refine Kd.C_alloc ?_ _) | (with_reducible refine Kd.C_drewN ?_ _) | (with_reducible refine Kd.C_drew ?_))); (case side2 => exact (Kd.R_reads' HO_6.out).2.1); rintro e w56 ⟨rfl, hb⟩; replace HO_5 := Aside0.mk (Kd.R_below (rq HO_5.out) hb); replace HO_6 := Aside0.mk (Kd.R_below (rq HO_6.out) hb); replace HO_9 := Aside0.mk (Kd.R_below (rq HO_9.out) hb); replace HO_10 := Aside0.mk (Kd.R_below (rq HO_10.out) hb); replace BK201 := Aside0.mk (qaM (h0 BK201.out) hb); replace HB := Aside0.mk (qaC (bq HB.out (.c GE201.out .n)) hb); (try clear hb); (try clear hb2); (try clear hk); (try clear hi)) | (go_at_call 10; (with_reducible refine (qbN.calls t218 t219 0 false _ A48.out).mono ?_); rintro e w57 ⟨rfl, hb⟩; replace HO_5 := Aside0.mk (Kd.R_below (rq HO_5.out) hb); replace HO_6 := Aside0.mk (Kd.R_below (rq HO_6.out) hb); replace HO_9 := Aside0.mk (Kd.R_below (rq HO_9.out) hb); replace HO_10 := Aside0.mk (Kd.R_below (rq HO_10.out) hb); replace BK201 := Aside0.mk (qaM (h0 BK201.out) hb); replace HB := Aside0.mk (qaC (bq HB.out (.c GE201.out .n)) hb); (try clear hb); (try clear hb2); (try clear hk); (try clear hi)))
                  go_ret
                  exact ⟨by first | rfl | (simp [qbA, qa9] <;> rfl) | (simp [*, qbA, qa9] <;> rfl), bq HB.out (.c GE201.out .n)⟩
                ·rw [if_neg c45] at H
                 exact absurd H (by simp)
               ·rw [if_neg c44] at H
                exact absurd H (by simp)
              ·replace c43 := Bool.eq_false_iff.mpr c43
               subst c43
               have H1 : (some false) = some r := by rw [if_neg (show ¬ (false = true) by decide)] at H; exact H
               clear H
               have H := H1
               clear H1
               obtain rfl := Option.some.inj H
               obtain ⟨Ao58, co58, eo58⟩ := Kd.R_slice HO_10.out
               subst eo58
               go_wp2
               go_ret
               exact ⟨by first | rfl | (simp [qbA, qa9] <;> rfl) | (simp [*, qbA, qa9] <;> rfl), bq HB.out (.c GE201.out .n)⟩
       ·as_aux_lemma =>
        rw [if_neg c19] at H
        have c19b0 : decide (x12_2 < (t193.length : Int)) = false := decide_eq_false c19
        clear c19
        have H' := Aside0.mk H
        clear H
        go_wp2
        go_loopg [16] k2 (fun kq v16 w' => ∃ (x16_3 : Int), v16 = .int .i64 x16_3 ∧ Aside0 (qaA.l3 kq t193 t196 t202 x16_3 = some r) ∧ Aside0 (kq ≤ k2) ∧ Aside0 (Kd.R (Kd.int .i64) 2 w' w.heap.size (fun _ => True) (.slice Ao11 t193.length co11) t193) ∧ Aside0 (Kd.R k31 31 w' w.heap.size (fun k_ => some k_ ≠ (v203 : Value).ownBlock ∧ k_ ≠ gb201) (.slice Ao15 t196.length co15) t196) ∧ Aside0 (Kd.R k31 31 w' w.heap.size (fun k_ => some k_ ≠ ((.slice Ao15 t196.length co15) : Value).ownBlock ∧ k_ ≠ gb201) v203 t202) ∧ Aside0 (w'.heap[gb201]? = some (.cells #[.int .i64 (-23622320128), .int .i64 (wrap64 (21474836480 + t200))] 31 (0, 0))) ∧ Aside0 (Below w.heap.size w w'))
        case atStart => exact ⟨(0), er, H', ⟨Nat.le_refl _⟩, ⟨rq HO_5.out⟩, ⟨by (with_reducible repeat (first | apply Kd.R_alloc | apply Kd.R_drewN | apply Kd.R_drew)); exact Kd.R_mono HO_6.out (fun _ hk => ⟨hk.1, hk.2.2⟩)⟩, ⟨by (with_reducible repeat (first | apply Kd.R_alloc | apply Kd.R_drewN | apply Kd.R_drew)); exact Kd.R_mono HO_9.out (fun _ hk => ⟨hk.1, hk.2.2⟩)⟩, ⟨h0 BK201.out⟩, ⟨bq HB.out (.c GE201.out .n)⟩⟩
        case round =>
         clear H'
         try clear c1
         try clear c2
         try clear p2
         try clear q2
         try clear hx2
         try clear c3
         try clear c4
         try clear c5
         try clear c6
         try clear p6
         try clear c7
         try clear c8
         try clear c9
         try clear c10
         try clear c17
         try clear c18
         try clear c19
         try clear c19b0
         try clear c20
         try clear c20b0
         try clear p20
         try clear q20
         try clear hx20
         try clear c21
         try clear p21
         try clear q21
         try clear hx21
         try clear c24
         try clear c24b0
         try clear c25
         try clear c25b0
         try clear c26
         try clear c26b0
         try clear c32
         try clear c32b0
         try clear c33
         try clear c36
         try clear c36b0
         try clear c37
         try clear c37b0
         try clear c38
         try clear c38b0
         try clear c43
         try clear c44
         try clear c44b0
         try clear c45
         try clear c45b0
         try clear c49
         try clear hcz14_0
         try clear hcz14_1
         try clear hfz14_0
         try clear hfz14_1
         try clear hx209_0
         try clear hx209_1
         try clear hx210_0
         try clear hx212_0
         try clear hx212_1
         try clear hx213_0
         try clear hx215_0
         try clear p2
         try clear p20
         try clear p209
         try clear p21
         try clear p210
         try clear p212
         try clear p213
         try clear p215
         try clear p6
         try clear q2
         try clear q20
         try clear q209
         try clear q21
         try clear q210
         try clear q212
         try clear q213
         try clear q215
         obtain ⟨x16_3, rfl, HA, HK3, HO_5, HO_6, HO_9, BK201, HB⟩ := hrel
         cases gk with
         | zero => exact absurd HA.out (by simp [qaA.l3])
         | succ k3 =>
          have H := HA.out
          clear HA
          simp only [qaA.l3] at H
          by_cases c59 : x16_3 < (t202.length : Int)
          ·as_aux_lemma =>
           rw [if_pos c59] at H
           have c59b0 : decide (x16_3 < (t202.length : Int)) = true := decide_eq_true c59
           clear c59
           by_cases c60 : 0 ≤ x16_3
           ·as_aux_lemma =>
            rw [if_pos c60] at H
            have c60b0 : decide (0 ≤ x16_3) = true := decide_eq_true c60
            clear c60
            replace H := Option.bind_eq_some_iff.mp H
            obtain ⟨⟨t222, t223, t224⟩, A610, H⟩ := H
            replace H : ((qaG.f t196 ((qaN t202 x16_3).f0) ((qaN t202 x16_3).f1) 6).bind fun bt227 => (if t224 = 0 then (if bt227.2.2 = 0 then ((qbG.f ((qaN t202 x16_3).f0) ((qaN t202 x16_3).f1)).bind fun t232 => (if t232 = true then ((qbM.f t222 t223 ((qaN t202 x16_3).f0) ((qaN t202 x16_3).f1)).bind fun t234 => (if t234 = true then ((qbM.f bt227.1 bt227.2.1 ((qaN t202 x16_3).f0) ((qaN t202 x16_3).f1)).bind fun t236 => (if t236 = true then ((qaT.f t196 ((qaN t202 x16_3).f0) ((qaN t202 x16_3).f1)).bind fun t238 => (qaA.j5 k3 t193 t196 t202 x16_3 (!t238) t222 t223 bt227.1 bt227.2.1)) else (qaA.j5 k3 t193 t196 t202 x16_3 true t222 t223 bt227.1 bt227.2.1))) else (qaA.j5 k3 t193 t196 t202 x16_3 true t222 t223 bt227.1 bt227.2.1))) else (qaA.j5 k3 t193 t196 t202 x16_3 true t222 t223 bt227.1 bt227.2.1))) else (qaA.j5 k3 t193 t196 t202 x16_3 true t222 t223 bt227.1 bt227.2.1)) else (qaA.j5 k3 t193 t196 t202 x16_3 true t222 t223 bt227.1 bt227.2.1))) = some r := H
            have A61 := Aside0.mk A610
            clear A610
            replace H := Option.bind_eq_some_iff.mp H
            obtain ⟨⟨t227, t228, t229⟩, A620, H⟩ := H
            replace H : (if t224 = 0 then (if t229 = 0 then ((qbG.f ((qaN t202 x16_3).f0) ((qaN t202 x16_3).f1)).bind fun t232 => (if t232 = true then ((qbM.f t222 t223 ((qaN t202 x16_3).f0) ((qaN t202 x16_3).f1)).bind fun t234 => (if t234 = true then ((qbM.f t227 t228 ((qaN t202 x16_3).f0) ((qaN t202 x16_3).f1)).bind fun t236 => (if t236 = true then ((qaT.f t196 ((qaN t202 x16_3).f0) ((qaN t202 x16_3).f1)).bind fun t238 => (qaA.j5 k3 t193 t196 t202 x16_3 (!t238) t222 t223 t227 t228)) else (qaA.j5 k3 t193 t196 t202 x16_3 true t222 t223 t227 t228))) else (qaA.j5 k3 t193 t196 t202 x16_3 true t222 t223 t227 t228))) else (qaA.j5 k3 t193 t196 t202 x16_3 true t222 t223 t227 t228))) else (qaA.j5 k3 t193 t196 t202 x16_3 true t222 t223 t227 t228)) else (qaA.j5 k3 t193 t196 t202 x16_3 true t222 t223 t227 t228)) = some r := H
            have A62 := Aside0.mk A620
            clear A620
            have HC63 := Aside0.mk H
            clear H
            obtain ⟨Ao64, co64, eo64⟩ := Kd.R_slice HO_9.out
            subst eo64
            have p221 : 0 ≤ (x16_3 : Int) := od
            have q221 : x16_3 < (t202.length : Int) := od
            obtain ⟨ad221, e221, hx221_0, hx221_1⟩ := qe8 (Kd.R_reads' HO_9.out).2.2 x16_3 p221 q221
            cases e221
            replace p221 := eq_true p221
            replace q221 := eq_true q221
            go_upto_region 28 with (first | ((with_reducible refine qaV (f := 13) rfl ?_); refine qcL (some 119) rfl rfl Try.func13 (by kernel_rfl) rfl #[.slice Ao15 t196.length co15, .agg #[.int .i64 ((qaN t202 x16_3).f0), .int .i64 ((qaN t202 x16_3).f1)], .int .i64 20] rfl (by (try simp only [List.map_toArray, List.map_cons, List.map_nil]); first | done | rfl | (simp only [List.length_drop, List.length_take]; rfl)) ?_; (with_reducible refine (qaJ.calls _ _ t196 ((qaN t202 x16_3).f0) ((qaN t202 x16_3).f1) 20 t222 t223 t224 _ ?side1 ?side2 A61.out).mono ?_); (case side1 => repeat (first | exact (Kd.R_reads' HO_6.out).2.2 | (with_reducible refine Kd.C_alloc ?_ _) | (with_reducible refine Kd.C_drewN ?_ _) | (with_reducible refine Kd.C_drew ?_))); (case side2 => exact (Kd.R_reads' HO_6.out).2.1); rintro e w65 ⟨rfl, hb⟩; refine ⟨_, rfl, ?_⟩; replace HO_5 := Aside0.mk (Kd.R_below (rq HO_5.out) hb); replace HO_6 := Aside0.mk (Kd.R_below (rq HO_6.out) hb); replace HO_9 := Aside0.mk (Kd.R_below (rq HO_9.out) hb); replace BK201 := Aside0.mk (qaM (h0 BK201.out) hb); replace HB := Aside0.mk (qaC (bq HB.out (.c GE201.out .n)) hb); (try clear hb); (try clear hb2); (try clear hk); (try clear hi)) | ((with_reducible refine qcR (N := 17) rfl ?_); refine qcY ?hg (N := 17) ?hd (cs := #[.int .i64 0, .int .i64 0]) (t := 31) ?hr ?_; (case hd => rfl); (case hg => rfl); (case hr => first | (go_simp; done) | (go_simp; rfl)); intro gb225 hg w66 hbox hb; replace HO_5 := Aside0.mk (Kd.R_below (rq HO_5.out) hb); replace HO_6 := Aside0.mk (Kd.R_below (Kd.R_elderB (rq HO_6.out) gb225 (Nat.le_of_eq hg.symm)) hb); replace HO_9 := Aside0.mk (Kd.R_below (Kd.R_elderB (rq HO_9.out) gb225 (Nat.le_of_eq hg.symm)) hb); have BK225 := Aside0.mk (hbox); have GW225 := Aside0.mk ((by rw [hg]; exact (qbP (bq HB.out (.c GE201.out .n))) : w.heap.size ≤ gb225)); have GE225 := Aside0.mk ((by rw [hg]; exact (qbP (bq HB.out (.c GE201.out .n))) : w.heap.size ≤ gb225)); replace HB := Aside0.mk (qaC (bq HB.out (.c GE201.out .n)) hb); have NB201_225 := Aside0.mk ((by rw [hg]; exact Nat.ne_of_lt (qeQ (g := gb201) (o := .cells #[.int .i64 (-23622320128), .int .i64 (wrap64 (21474836480 + t200))] 31 (0, 0)) (h0 BK201.out)) : gb201 ≠ gb225)); have NB225_201 := Aside0.mk ((by rw [hg]; exact Nat.ne_of_gt (qeQ (g := gb201) (o := .cells #[.int .i64 (-23622320128), .int .i64 (wrap64 (21474836480 + t200))] 31 (0, 0)) (h0 BK201.out)) : gb225 ≠ gb201)); replace BK201 := Aside0.mk (qaM (h0 BK201.out) hb); clear hb hbox hg; have hnb67 := NB225_201.out; have hnc67 := NB201_225.out; have hcz68_0 : w66.cell? ⟨gb225, 0, none⟩ = some (.int .i64 0) := (qaD BK225.out 0).trans rfl; have hcz68_1 : w66.cell? ⟨gb225, 1, none⟩ = some (.int .i64 0) := (qaD BK225.out 1).trans rfl; have hfz68_0 := qbZ BK225.out 0; have hfz68_1 := qbZ BK225.out 1; have p226 : 0 ≤ (x16_3 : Int) := od; have q226 : x16_3 < (t202.length : Int) := od; obtain ⟨ad226, e226, hx226_0, hx226_1⟩ := qe8 (Kd.R_reads' HO_9.out).2.2 x16_3 p226 q226; obtain rfl : ad221 = ad226 := (by injection e226); have hn226_0 : ad221.block ≠ gb225 := (by first | exact Kd.own_blk (Kd.R_ne HO_9.out BK225.out (by decide)) | (have hq := (HO_9.out).1 _ rfl; first | exact hq.2 | exact hq.1.2 | exact hq.2.2 | grind)); have hn226_1 : ad221.block ≠ gb225 := (by first | exact Kd.own_blk (Kd.R_ne HO_9.out BK225.out (by decide)) | (have hq := (HO_9.out).1 _ rfl; first | exact hq.2 | exact hq.1.2 | exact hq.2.2 | grind)); replace hx226_0 := (cell_far (p := ⟨gb225, 0, none⟩) (by first | (rw [qeY]; exact hn226_0) | (show (Addr.add _ _).block ≠ _; rw [qeY]; exact hn226_0) | exact hn226_0) (.int .i64 t222)).trans hx226_0; replace hx226_1 := (cell_far (p := ⟨gb225, 0, none⟩) (by first | (rw [qeY]; exact hn226_0) | (show (Addr.add _ _).block ≠ _; rw [qeY]; exact hn226_0) | exact hn226_0) (.int .i64 t222)).trans hx226_1; replace hx226_0 := (cell_far (p := ⟨gb225, 1, none⟩) (by first | (rw [qeY]; exact hn226_1) | (show (Addr.add _ _).block ≠ _; rw [qeY]; exact hn226_1) | exact hn226_1) (.int .i64 t223)).trans hx226_0; replace hx226_1 := (cell_far (p := ⟨gb225, 1, none⟩) (by first | (rw [qeY]; exact hn226_1) | (show (Addr.add _ _).block ≠ _; rw [qeY]; exact hn226_1) | exact hn226_1) (.int .i64 t223)).trans hx226_1; clear hn226_0; clear hn226_1; replace p226 := eq_true p226; replace q226 := eq_true q226) | ((with_reducible refine qaV (f := 14) rfl ?_); refine qcL (some 128) rfl rfl Try.func14 (by kernel_rfl) rfl #[.slice Ao15 t196.length co15, .agg #[.int .i64 ((qaN t202 x16_3).f0), .int .i64 ((qaN t202 x16_3).f1)], .int .i64 6] rfl (by (try simp only [List.map_toArray, List.map_cons, List.map_nil]); first | done | rfl | (simp only [List.length_drop, List.length_take]; rfl)) ?_; (with_reducible refine (qaG.calls _ _ t196 ((qaN t202 x16_3).f0) ((qaN t202 x16_3).f1) 6 t227 t228 t229 _ ?side1 ?side2 A62.out).mono ?_); (case side1 => refine (Kd.R_reads' (e := 31) (base := w.heap.size) (ok := fun k_ => ((some k_ ≠ (.slice (some ad221) t202.length co64 : Value).ownBlock ∧ k_ ≠ gb201) ∧ k_ ≠ gb225)) (n := t196.length) (c := co15) ?_).2.2; exact (by (with_reducible repeat (first | apply Kd.R_alloc | apply Kd.R_drewN | apply Kd.R_drew)); exact (Kd.R_mono (Kd.R_far (p := ⟨gb225, 1, none⟩) (Kd.R_far (p := ⟨gb225, 0, none⟩) (Kd.R_mono HO_6.out (fun k_ hk => (⟨hk, hk.2⟩ : _ ∧ k_ ≠ gb225))) (fun _ hk => hk.2) (.int .i64 t222)) (fun _ hk => hk.2) (.int .i64 t223)) (fun _ h_ => h_.1)))); (case side2 => exact (Kd.R_reads' HO_6.out).2.1); rintro e w69 ⟨rfl, hb⟩; refine ⟨_, rfl, ?_⟩; replace HO_5 := Aside0.mk (Kd.R_below (by (with_reducible repeat (first | apply Kd.R_alloc | apply Kd.R_drewN | apply Kd.R_drew)); exact (Kd.R_mono (Kd.R_far (p := ⟨gb225, 1, none⟩) (Kd.R_far (p := ⟨gb225, 0, none⟩) (Kd.R_types HO_5.out BK225.out (by decide)) (fun _ hk => hk.2) (.int .i64 t222)) (fun _ hk => hk.2) (.int .i64 t223)) (fun _ h_ => h_.1))) hb); replace HO_6 := Aside0.mk (Kd.R_below (by (with_reducible repeat (first | apply Kd.R_alloc | apply Kd.R_drewN | apply Kd.R_drew)); exact (Kd.R_mono (Kd.R_far (p := ⟨gb225, 1, none⟩) (Kd.R_far (p := ⟨gb225, 0, none⟩) (Kd.R_mono HO_6.out (fun k_ hk => (⟨hk, hk.2⟩ : _ ∧ k_ ≠ gb225))) (fun _ hk => hk.2) (.int .i64 t222)) (fun _ hk => hk.2) (.int .i64 t223)) (fun _ h_ => h_.1))) hb); replace HO_9 := Aside0.mk (Kd.R_below (by (with_reducible repeat (first | apply Kd.R_alloc | apply Kd.R_drewN | apply Kd.R_drew)); exact (Kd.R_mono (Kd.R_far (p := ⟨gb225, 1, none⟩) (Kd.R_far (p := ⟨gb225, 0, none⟩) (Kd.R_mono HO_9.out (fun k_ hk => (⟨hk, hk.2⟩ : _ ∧ k_ ≠ gb225))) (fun _ hk => hk.2) (.int .i64 t222)) (fun _ hk => hk.2) (.int .i64 t223)) (fun _ h_ => h_.1))) hb); replace BK201 := Aside0.mk (qaM (g := gb201) (o := .cells #[.int .i64 (-23622320128), .int .i64 (wrap64 (21474836480 + t200))] 31 (0, 0)) (hq BK201.out (.c NB201_225.out .n)) hb); replace BK225 := Aside0.mk (qaM (g := gb225) (o := .cells #[.int .i64 t222, .int .i64 t223] 31 (0, 0)) (by refine hp ?_; refine qdO (cs := #[.int .i64 t222, .int .i64 0]) ?_ 1 _ rfl; refine hp ?_; refine qdO (cs := #[.int .i64 0, .int .i64 0]) ?_ 0 _ rfl; exact h0 BK225.out) hb); replace HB := Aside0.mk (qaC (bq HB.out (.c GE201.out (.c GE225.out .n))) hb); (try clear hb); (try clear hb2); (try clear hk); (try clear hi)) | ((with_reducible refine qcR (N := 19) rfl ?_); refine qcY ?hg (N := 19) ?hd (cs := #[.int .i64 0, .int .i64 0]) (t := 31) ?hr ?_; (case hd => rfl); (case hg => rfl); (case hr => first | (go_simp; done) | (go_simp; rfl)); intro gb230 hg w70 hbox hb; replace HO_5 := Aside0.mk (Kd.R_below (rq HO_5.out) hb); replace HO_6 := Aside0.mk (Kd.R_below (Kd.R_elderB (rq HO_6.out) gb230 (Nat.le_of_eq hg.symm)) hb); replace HO_9 := Aside0.mk (Kd.R_below (Kd.R_elderB (rq HO_9.out) gb230 (Nat.le_of_eq hg.symm)) hb); have BK230 := Aside0.mk (hbox); have GW230 := Aside0.mk ((by rw [hg]; exact (qbP (bq HB.out (.c GE201.out (.c GE225.out .n)))) : w.heap.size ≤ gb230)); have GE230 := Aside0.mk ((by rw [hg]; exact (qbP (bq HB.out (.c GE201.out (.c GE225.out .n)))) : w.heap.size ≤ gb230)); replace HB := Aside0.mk (qaC (bq HB.out (.c GE201.out (.c GE225.out .n))) hb); have NB201_230 := Aside0.mk ((by rw [hg]; exact Nat.ne_of_lt (qeQ (g := gb201) (o := .cells #[.int .i64 (-23622320128), .int .i64 (wrap64 (21474836480 + t200))] 31 (0, 0)) (h0 BK201.out)) : gb201 ≠ gb230)); have NB230_201 := Aside0.mk ((by rw [hg]; exact Nat.ne_of_gt (qeQ (g := gb201) (o := .cells #[.int .i64 (-23622320128), .int .i64 (wrap64 (21474836480 + t200))] 31 (0, 0)) (h0 BK201.out)) : gb230 ≠ gb201)); replace BK201 := Aside0.mk (qaM (h0 BK201.out) hb); have NB225_230 := Aside0.mk ((by rw [hg]; exact Nat.ne_of_lt (qeQ (g := gb225) (o := .cells #[.int .i64 t222, .int .i64 t223] 31 (0, 0)) (h0 BK225.out)) : gb225 ≠ gb230)); have NB230_225 := Aside0.mk ((by rw [hg]; exact Nat.ne_of_gt (qeQ (g := gb225) (o := .cells #[.int .i64 t222, .int .i64 t223] 31 (0, 0)) (h0 BK225.out)) : gb230 ≠ gb225)); replace BK225 := Aside0.mk (qaM (h0 BK225.out) hb); clear hb hbox hg; have hnb71 := NB230_201.out; have hnc71 := NB201_230.out; have hnb72 := NB230_225.out; have hnc72 := NB225_230.out; have hcz73_0 : w70.cell? ⟨gb230, 0, none⟩ = some (.int .i64 0) := (qaD BK230.out 0).trans rfl; have hcz73_1 : w70.cell? ⟨gb230, 1, none⟩ = some (.int .i64 0) := (qaD BK230.out 1).trans rfl; have hfz73_0 := qbZ BK230.out 0; have hfz73_1 := qbZ BK230.out 1))
            (try simp only [Act.put, List.setIfInBounds_toArray, List.set_cons_zero, List.set_cons_succ])
            go_cut [171] (fun v171 wc => ∃ (kq : Nat) (x171_62 : Bool), v171 = .bool x171_62 ∧ Aside0 (qaA.j5 kq t193 t196 t202 x16_3 x171_62 t222 t223 t227 t228 = some r) ∧ Aside0 (kq ≤ k3) ∧ Aside0 (Kd.R (Kd.int .i64) 2 wc w.heap.size (fun _ => True) (.slice Ao11 t193.length co11) t193) ∧ Aside0 (Kd.R k31 31 wc w.heap.size (fun k_ => some k_ ≠ ((.slice (some ad221) t202.length co64) : Value).ownBlock ∧ k_ ≠ gb201 ∧ k_ ≠ gb225 ∧ k_ ≠ gb230) (.slice Ao15 t196.length co15) t196) ∧ Aside0 (Kd.R k31 31 wc w.heap.size (fun k_ => some k_ ≠ ((.slice Ao15 t196.length co15) : Value).ownBlock ∧ k_ ≠ gb201 ∧ k_ ≠ gb225 ∧ k_ ≠ gb230) (.slice (some ad221) t202.length co64) t202) ∧ Aside0 (wc.heap[gb201]? = some (.cells #[.int .i64 (-23622320128), .int .i64 (wrap64 (21474836480 + t200))] 31 (0, 0))) ∧ Aside0 (wc.heap[gb225]? = some (.cells #[.int .i64 t222, .int .i64 t223] 31 (0, 0))) ∧ Aside0 (wc.heap[gb230]? = some (.cells #[.int .i64 t227, .int .i64 t228] 31 (0, 0))) ∧ Aside0 (Below w.heap.size w wc))
            case first =>
             have H := HC63.out
             clear HC63
             by_cases c74 : t224 = 0
             ·as_aux_lemma =>
              rw [if_pos c74] at H
              have c74b0 : (t224 == 0) = true := beq_iff_eq.mpr c74
              have c74b1 : (t224 != 0) = false := bne_eq_false_iff_eq.mpr c74
              clear c74
              (first | rw [c74b0] | (simp only [i64_w, i32_w]; rw [c74b0]) | skip)
              by_cases c75 : t229 = 0
              ·as_aux_lemma =>
               rw [if_pos c75] at H
               have c75b0 : (t229 == 0) = true := beq_iff_eq.mpr c75
               have c75b1 : (t229 != 0) = false := bne_eq_false_iff_eq.mpr c75
               clear c75
               replace H := Option.bind_eq_some_iff.mp H
               obtain ⟨t232, A760, H⟩ := H
               replace H : (if t232 = true then ((qbM.f t222 t223 ((qaN t202 x16_3).f0) ((qaN t202 x16_3).f1)).bind fun t234 => (if t234 = true then ((qbM.f t227 t228 ((qaN t202 x16_3).f0) ((qaN t202 x16_3).f1)).bind fun t236 => (if t236 = true then ((qaT.f t196 ((qaN t202 x16_3).f0) ((qaN t202 x16_3).f1)).bind fun t238 => (qaA.j5 k3 t193 t196 t202 x16_3 (!t238) t222 t223 t227 t228)) else (qaA.j5 k3 t193 t196 t202 x16_3 true t222 t223 t227 t228))) else (qaA.j5 k3 t193 t196 t202 x16_3 true t222 t223 t227 t228))) else (qaA.j5 k3 t193 t196 t202 x16_3 true t222 t223 t227 t228)) = some r := H
               have A76 := Aside0.mk A760
               clear A760
               by_cases c77 : t232 = true
               ·as_aux_lemma =>
                subst c77
                have H1 : ((qbM.f t222 t223 ((qaN t202 x16_3).f0) ((qaN t202 x16_3).f1)).bind fun t234 => (if t234 = true then ((qbM.f t227 t228 ((qaN t202 x16_3).f0) ((qaN t202 x16_3).f1)).bind fun t236 => (if t236 = true then ((qaT.f t196 ((qaN t202 x16_3).f0) ((qaN t202 x16_3).f1)).bind fun t238 => (qaA.j5 k3 t193 t196 t202 x16_3 (!t238) t222 t223 t227 t228)) else (qaA.j5 k3 t193 t196 t202 x16_3 true t222 t223 t227 t228))) else (qaA.j5 k3 t193 t196 t202 x16_3 true t222 t223 t227 t228))) = some r := by rw [if_pos rfl] at H; exact H
                clear H
                have H := H1
                clear H1
                replace H := Option.bind_eq_some_iff.mp H
                obtain ⟨t234, A780, H⟩ := H
                replace H : (if t234 = true then ((qbM.f t227 t228 ((qaN t202 x16_3).f0) ((qaN t202 x16_3).f1)).bind fun t236 => (if t236 = true then ((qaT.f t196 ((qaN t202 x16_3).f0) ((qaN t202 x16_3).f1)).bind fun t238 => (qaA.j5 k3 t193 t196 t202 x16_3 (!t238) t222 t223 t227 t228)) else (qaA.j5 k3 t193 t196 t202 x16_3 true t222 t223 t227 t228))) else (qaA.j5 k3 t193 t196 t202 x16_3 true t222 t223 t227 t228)) = some r := H
                have A78 := Aside0.mk A780
                clear A780
                by_cases c79 : t234 = true
                ·as_aux_lemma =>
                 subst c79
                 have H1 : ((qbM.f t227 t228 ((qaN t202 x16_3).f0) ((qaN t202 x16_3).f1)).bind fun t236 => (if t236 = true then ((qaT.f t196 ((qaN t202 x16_3).f0) ((qaN t202 x16_3).f1)).bind fun t238 => (qaA.j5 k3 t193 t196 t202 x16_3 (!t238) t222 t223 t227 t228)) else (qaA.j5 k3 t193 t196 t202 x16_3 true t222 t223 t227 t228))) = some r := by rw [if_pos rfl] at H; exact H
                 clear H
                 have H := H1
                 clear H1
                 replace H := Option.bind_eq_some_iff.mp H
                 obtain ⟨t236, A800, H⟩ := H
                 replace H : (if t236 = true then ((qaT.f t196 ((qaN t202 x16_3).f0) ((qaN t202 x16_3).f1)).bind fun t238 => (qaA.j5 k3 t193 t196 t202 x16_3 (!t238) t222 t223 t227 t228)) else (qaA.j5 k3 t193 t196 t202 x16_3 true t222 t223 t227 t228)) = some r := H
                 have A80 := Aside0.mk A800
                 clear A800
                 by_cases c81 : t236 = true
                 ·as_aux_lemma =>
                  subst c81
                  have H1 : ((qaT.f t196 ((qaN t202 x16_3).f0) ((qaN t202 x16_3).f1)).bind fun t238 => (qaA.j5 k3 t193 t196 t202 x16_3 (!t238) t222 t223 t227 t228)) = some r := by rw [if_pos rfl] at H; exact H
                  clear H
                  have H := H1
                  clear H1
                  replace H := Option.bind_eq_some_iff.mp H
                  obtain ⟨t238, A820, H⟩ := H
                  replace H : (qaA.j5 k3 t193 t196 t202 x16_3 (!t238) t222 t223 t227 t228) = some r := H
                  have A82 := Aside0.mk A820
                  clear A820
                  have H' := Aside0.mk H
                  clear H
                  try go_wp2
                  have n0_ : Aside0 (Kd.R (Kd.int .i64) 2 ((w70.setCell ⟨gb230, 0, none⟩ (.int .i64 t227)).setCell ⟨gb230, 1, none⟩ (.int .i64 t228)) w.heap.size (fun _ => True) (.slice Ao11 t193.length co11) t193) := ⟨by (with_reducible repeat (first | apply Kd.R_alloc | apply Kd.R_drewN | apply Kd.R_drew)); exact Kd.R_mono (Kd.R_far (p := ⟨gb230, 1, none⟩) (Kd.R_far (p := ⟨gb230, 0, none⟩) (Kd.R_types HO_5.out BK230.out (by decide)) (fun _ hk => hk.2) (.int .i64 t227)) (fun _ hk => hk.2) (.int .i64 t228)) (fun _ hk => trivial)⟩
                  have n1_ : Aside0 (Kd.R k31 31 ((w70.setCell ⟨gb230, 0, none⟩ (.int .i64 t227)).setCell ⟨gb230, 1, none⟩ (.int .i64 t228)) w.heap.size (fun k_ => some k_ ≠ (.slice (some ad221) t202.length co64 : Value).ownBlock ∧ k_ ≠ gb201 ∧ k_ ≠ gb225 ∧ k_ ≠ gb230) (.slice Ao15 t196.length co15) t196) := ⟨by (with_reducible repeat (first | apply Kd.R_alloc | apply Kd.R_drewN | apply Kd.R_drew)); exact Kd.R_mono (Kd.R_far (p := ⟨gb230, 1, none⟩) (Kd.R_far (p := ⟨gb230, 0, none⟩) (Kd.R_mono HO_6.out (fun k_ hk => (⟨hk, hk.2⟩ : _ ∧ k_ ≠ gb230))) (fun _ hk => hk.2) (.int .i64 t227)) (fun _ hk => hk.2) (.int .i64 t228)) (fun _ hk => ⟨hk.1.1.1.1, ⟨hk.1.1.1.2, ⟨hk.1.1.2, hk.1.2⟩⟩⟩)⟩
                  have n2_ : Aside0 (Kd.R k31 31 ((w70.setCell ⟨gb230, 0, none⟩ (.int .i64 t227)).setCell ⟨gb230, 1, none⟩ (.int .i64 t228)) w.heap.size (fun k_ => some k_ ≠ (.slice Ao15 t196.length co15 : Value).ownBlock ∧ k_ ≠ gb201 ∧ k_ ≠ gb225 ∧ k_ ≠ gb230) (.slice (some ad221) t202.length co64) t202) := ⟨by (with_reducible repeat (first | apply Kd.R_alloc | apply Kd.R_drewN | apply Kd.R_drew)); exact Kd.R_mono (Kd.R_far (p := ⟨gb230, 1, none⟩) (Kd.R_far (p := ⟨gb230, 0, none⟩) (Kd.R_mono HO_9.out (fun k_ hk => (⟨hk, hk.2⟩ : _ ∧ k_ ≠ gb230))) (fun _ hk => hk.2) (.int .i64 t227)) (fun _ hk => hk.2) (.int .i64 t228)) (fun _ hk => ⟨hk.1.1.1.1, ⟨hk.1.1.1.2, ⟨hk.1.1.2, hk.1.2⟩⟩⟩)⟩
                  have n3_ : Aside0 (((w70.setCell ⟨gb230, 0, none⟩ (.int .i64 t227)).setCell ⟨gb230, 1, none⟩ (.int .i64 t228)).heap[gb201]? = some (.cells #[.int .i64 (-23622320128), .int .i64 (wrap64 (21474836480 + t200))] 31 (0, 0))) := ⟨hq BK201.out (.c NB201_230.out .n)⟩
                  have n4_ : Aside0 (((w70.setCell ⟨gb230, 0, none⟩ (.int .i64 t227)).setCell ⟨gb230, 1, none⟩ (.int .i64 t228)).heap[gb225]? = some (.cells #[.int .i64 t222, .int .i64 t223] 31 (0, 0))) := ⟨hq BK225.out (.c NB225_230.out .n)⟩
                  have n5_ : Aside0 (((w70.setCell ⟨gb230, 0, none⟩ (.int .i64 t227)).setCell ⟨gb230, 1, none⟩ (.int .i64 t228)).heap[gb230]? = some (.cells #[.int .i64 t227, .int .i64 t228] 31 (0, 0))) := ⟨by refine hp ?_; refine qdO (cs := #[.int .i64 t227, .int .i64 0]) ?_ 1 _ rfl; refine hp ?_; refine qdO (cs := #[.int .i64 0, .int .i64 0]) ?_ 0 _ rfl; exact h0 BK230.out⟩
                  have n6_ : Aside0 (Below w.heap.size w ((w70.setCell ⟨gb230, 0, none⟩ (.int .i64 t227)).setCell ⟨gb230, 1, none⟩ (.int .i64 t228))) := ⟨bq HB.out (.c GE201.out (.c GE225.out (.c GE230.out .n)))⟩
                  (try clear HO_5)
                  (try clear HO_6)
                  (try clear HO_9)
                  (try clear BK201)
                  (try clear BK225)
                  (try clear BK230)
                  (try clear HB)
                  generalize ((w70.setCell ⟨gb230, 0, none⟩ (.int .i64 t227)).setCell ⟨gb230, 1, none⟩ (.int .i64 t228)) = w83 at n0_ n1_ n2_ n3_ n4_ n5_ n6_ ⊢
                  have HO_5 := n0_
                  have HO_6 := n1_
                  have HO_9 := n2_
                  have BK201 := n3_
                  have BK225 := n4_
                  have BK230 := n5_
                  have HB := n6_
                  clear n0_ n1_ n2_ n3_ n4_ n5_ n6_
                  replace HO_5 := Aside0.mk (Kd.R_drew HO_5.out)
                  replace HO_6 := Aside0.mk (Kd.R_drew HO_6.out)
                  replace HO_9 := Aside0.mk (Kd.R_drew HO_9.out)
                  replace BK201 := Aside0.mk (qbQ BK201.out)
                  replace BK225 := Aside0.mk (qbQ BK225.out)
                  replace BK230 := Aside0.mk (qbQ BK230.out)
                  replace HB := Aside0.mk (qbH HB.out)
                  have p231 : 0 ≤ (x16_3 : Int) := od
                  have q231 : x16_3 < (t202.length : Int) := od
                  obtain ⟨ad231, e231, hx231_0, hx231_1⟩ := qe8 (Kd.R_reads' HO_9.out).2.2 x16_3 p231 q231
                  obtain rfl : ad221 = ad231 := (by injection e231)
                  replace p231 := eq_true p231
                  replace q231 := eq_true q231
                  have p233 : 0 ≤ (x16_3 : Int) := od
                  have q233 : x16_3 < (t202.length : Int) := od
                  obtain ⟨ad233, e233, hx233_0, hx233_1⟩ := qe8 (Kd.R_reads' HO_9.out).2.2 x16_3 p233 q233
                  obtain rfl : ad221 = ad233 := (by injection e233)
                  replace p233 := eq_true p233
                  replace q233 := eq_true q233
                  have p235 : 0 ≤ (x16_3 : Int) := od
                  have q235 : x16_3 < (t202.length : Int) := od
                  obtain ⟨ad235, e235, hx235_0, hx235_1⟩ := qe8 (Kd.R_reads' HO_9.out).2.2 x16_3 p235 q235
                  obtain rfl : ad221 = ad235 := (by injection e235)
                  replace p235 := eq_true p235
                  replace q235 := eq_true q235
                  have p237 : 0 ≤ (x16_3 : Int) := od
                  have q237 : x16_3 < (t202.length : Int) := od
                  obtain ⟨ad237, e237, hx237_0, hx237_1⟩ := qe8 (Kd.R_reads' HO_9.out).2.2 x16_3 p237 q237
                  obtain rfl : ad221 = ad237 := (by injection e237)
                  replace p237 := eq_true p237
                  replace q237 := eq_true q237
                  refine qd3 (n := 41) (S := fun w' => w'.cell? ⟨gb225, 0, none⟩ = some (.int .i64 t222) ∧ w'.cell? ⟨gb225, 1, none⟩ = some (.int .i64 t223) ∧ w'.cell? ⟨gb230, 0, none⟩ = some (.int .i64 t227) ∧ w'.cell? ⟨gb230, 1, none⟩ = some (.int .i64 t228) ∧ w'.cell? (ad221.add ((x16_3).toNat * 2)) = some (.int .i64 ((qaN t202 x16_3).f0)) ∧ w'.cell? ⟨(ad221.add ((x16_3).toNat * 2)).block, (ad221.add ((x16_3).toNat * 2)).off + 1, none⟩ = some (.int .i64 ((qaN t202 x16_3).f1)) ∧ w'.cell? (ad221.add ((x16_3).toNat * 2)) = some (.int .i64 ((qaN t202 x16_3).f0)) ∧ w'.cell? ⟨(ad221.add ((x16_3).toNat * 2)).block, (ad221.add ((x16_3).toNat * 2)).off + 1, none⟩ = some (.int .i64 ((qaN t202 x16_3).f1)) ∧ w'.cell? (ad221.add ((x16_3).toNat * 2)) = some (.int .i64 ((qaN t202 x16_3).f0)) ∧ w'.cell? ⟨(ad221.add ((x16_3).toNat * 2)).block, (ad221.add ((x16_3).toNat * 2)).off + 1, none⟩ = some (.int .i64 ((qaN t202 x16_3).f1)) ∧ w'.cell? (ad221.add ((x16_3).toNat * 2)) = some (.int .i64 ((qaN t202 x16_3).f0)) ∧ w'.cell? ⟨(ad221.add ((x16_3).toNat * 2)).block, (ad221.add ((x16_3).toNat * 2)).off + 1, none⟩ = some (.int .i64 ((qaN t202 x16_3).f1))) (ds := []) #[false, false, false, false, false, false, false, false, false, false, false, false, false, false, false, false, false, false, false, false, false, false, false, false, false, false, false, false, false, false, false, false, false, false, false, false, false, false, false, false, false] (by kernel_rfl) rfl rfl ⟨(qaD BK225.out 0).trans rfl, (qaD BK225.out 1).trans rfl, (qaD BK230.out 0).trans rfl, (qaD BK230.out 1).trans rfl, hx231_0, hx231_1, hx233_0, hx233_1, hx235_0, hx235_1, hx237_0, hx237_1⟩ (fun hHeld => ?_); refine qdW qaA.tab28 qaA.bits28 (fun HT_ HW_ => ?_)
                  generalize w83.drew = w84 at HO_5 HO_6 HO_9 BK201 BK225 BK230 HB hx231_0 hx231_1 hx233_0 hx233_1 hx235_0 hx235_1 hx237_0 hx237_1 hHeld ⊢
                  refine pA 0 (some 131) HT_ ?_
                  refine pA 1 (some 132) HT_ ?_
                  refine pA 2 (some 133) HT_ ?_
                  refine pA 3 (some 134) HT_ ?_
                  refine pA 4 (some 135) HT_ ?_
                  refine pA 5 (some 136) HT_ ?_
                  refine pA 6 (some 137) HT_ ?_
                  refine pA 7 (some 138) HT_ ?_
                  refine pA 8 (some 139) HT_ ?_
                  refine pA 9 (some 140) HT_ ?_
                  refine tA 10 (some 141) HT_ HW_ hHeld ?_
                  refine oA 11 (some 142) HT_ fun K hK => ?_
                  refine gs Try.func15 #[.agg #[.int .i64 ((qaN t202 x16_3).f0), .int .i64 ((qaN t202 x16_3).f1)]] rfl ?_
                  with_reducible refine (qbG.calls ((qaN t202 x16_3).f0) ((qaN t202 x16_3).f1) true _ A76.out).mono ?_
                  rintro e w85 ⟨rfl, hb⟩
                  have HS4_ := hcb hb hHeld.2.2.2.2.1
                  have HS5_ := hcb hb hHeld.2.2.2.2.2.1
                  have HS6_ := hcb hb hHeld.2.2.2.2.2.2.1
                  have HS7_ := hcb hb hHeld.2.2.2.2.2.2.2.1
                  have HS8_ := hcb hb hHeld.2.2.2.2.2.2.2.2.1
                  have HS9_ := hcb hb hHeld.2.2.2.2.2.2.2.2.2.1
                  have HS10_ := hcb hb hHeld.2.2.2.2.2.2.2.2.2.2.1
                  have HS11_ := hcb hb hHeld.2.2.2.2.2.2.2.2.2.2.2
                  refine ⟨_, rfl, ?_⟩
                  replace HO_5 := Aside0.mk (Kd.R_below (rq HO_5.out) hb)
                  replace HO_6 := Aside0.mk (Kd.R_below (rq HO_6.out) hb)
                  replace HO_9 := Aside0.mk (Kd.R_below (rq HO_9.out) hb)
                  replace BK201 := Aside0.mk (qaM (h0 BK201.out) hb)
                  replace BK225 := Aside0.mk (qaM (h0 BK225.out) hb)
                  replace BK230 := Aside0.mk (qaM (h0 BK230.out) hb)
                  replace HB := Aside0.mk (qaC (bq HB.out (.c GE201.out (.c GE225.out (.c GE230.out .n)))) hb)
                  (try clear hb)
                  (try clear hb2)
                  (try clear hk)
                  (try clear hi)
                  refine hK.out _ _ ⟨(qaD BK225.out 0).trans rfl, (qaD BK225.out 1).trans rfl, (qaD BK230.out 0).trans rfl, (qaD BK230.out 1).trans rfl, HS4_, HS5_, HS6_, HS7_, HS8_, HS9_, HS10_, HS11_⟩ (fun hHeld => ?_)
                  clear hK K
                  refine nA (some 142) ?_
                  refine pA 12 (some 143) HT_ ?_
                  refine pA 13 (some 144) HT_ ?_
                  refine pA 14 (some 145) HT_ ?_
                  refine pA 16 (some 147) HT_ ?_
                  refine pA 17 (some 148) HT_ ?_
                  refine pA 18 (some 149) HT_ ?_
                  refine tA 15 (some 146) HT_ HW_ hHeld ?_
                  refine tA 19 (some 150) HT_ HW_ hHeld ?_
                  refine oA 20 (some 151) HT_ fun K hK => ?_
                  refine gs Try.func16 #[.agg #[.int .i64 t222, .int .i64 t223], .agg #[.int .i64 ((qaN t202 x16_3).f0), .int .i64 ((qaN t202 x16_3).f1)]] rfl ?_
                  with_reducible refine (qbM.calls t222 t223 ((qaN t202 x16_3).f0) ((qaN t202 x16_3).f1) true _ A78.out).mono ?_
                  rintro e w86 ⟨rfl, hb⟩
                  have HS4_ := hcb hb hHeld.2.2.2.2.1
                  have HS5_ := hcb hb hHeld.2.2.2.2.2.1
                  have HS6_ := hcb hb hHeld.2.2.2.2.2.2.1
                  have HS7_ := hcb hb hHeld.2.2.2.2.2.2.2.1
                  have HS8_ := hcb hb hHeld.2.2.2.2.2.2.2.2.1
                  have HS9_ := hcb hb hHeld.2.2.2.2.2.2.2.2.2.1
                  have HS10_ := hcb hb hHeld.2.2.2.2.2.2.2.2.2.2.1
                  have HS11_ := hcb hb hHeld.2.2.2.2.2.2.2.2.2.2.2
                  refine ⟨_, rfl, ?_⟩
                  replace HO_5 := Aside0.mk (Kd.R_below (rq HO_5.out) hb)
                  replace HO_6 := Aside0.mk (Kd.R_below (rq HO_6.out) hb)
                  replace HO_9 := Aside0.mk (Kd.R_below (rq HO_9.out) hb)
                  replace BK201 := Aside0.mk (qaM (h0 BK201.out) hb)
                  replace BK225 := Aside0.mk (qaM (h0 BK225.out) hb)
                  replace BK230 := Aside0.mk (qaM (h0 BK230.out) hb)
                  replace HB := Aside0.mk (qaC (bq HB.out (.c GE201.out (.c GE225.out (.c GE230.out .n)))) hb)
                  (try clear hb)
                  (try clear hb2)
                  (try clear hk)
                  (try clear hi)
                  refine hK.out _ _ ⟨(qaD BK225.out 0).trans rfl, (qaD BK225.out 1).trans rfl, (qaD BK230.out 0).trans rfl, (qaD BK230.out 1).trans rfl, HS4_, HS5_, HS6_, HS7_, HS8_, HS9_, HS10_, HS11_⟩ (fun hHeld => ?_)
                  clear hK K
                  refine nA (some 151) ?_
                  refine pA 21 (some 152) HT_ ?_
                  refine pA 22 (some 153) HT_ ?_
                  refine pA 23 (some 154) HT_ ?_
                  refine pA 25 (some 156) HT_ ?_
                  refine pA 26 (some 157) HT_ ?_
                  refine pA 27 (some 158) HT_ ?_
                  refine tA 24 (some 155) HT_ HW_ hHeld ?_
                  refine tA 28 (some 159) HT_ HW_ hHeld ?_
                  refine oA 29 (some 160) HT_ fun K hK => ?_
                  refine gs Try.func16 #[.agg #[.int .i64 t227, .int .i64 t228], .agg #[.int .i64 ((qaN t202 x16_3).f0), .int .i64 ((qaN t202 x16_3).f1)]] rfl ?_
                  with_reducible refine (qbM.calls t227 t228 ((qaN t202 x16_3).f0) ((qaN t202 x16_3).f1) true _ A80.out).mono ?_
                  rintro e w87 ⟨rfl, hb⟩
                  have HS4_ := hcb hb hHeld.2.2.2.2.1
                  have HS5_ := hcb hb hHeld.2.2.2.2.2.1
                  have HS6_ := hcb hb hHeld.2.2.2.2.2.2.1
                  have HS7_ := hcb hb hHeld.2.2.2.2.2.2.2.1
                  have HS8_ := hcb hb hHeld.2.2.2.2.2.2.2.2.1
                  have HS9_ := hcb hb hHeld.2.2.2.2.2.2.2.2.2.1
                  have HS10_ := hcb hb hHeld.2.2.2.2.2.2.2.2.2.2.1
                  have HS11_ := hcb hb hHeld.2.2.2.2.2.2.2.2.2.2.2
                  refine ⟨_, rfl, ?_⟩
                  replace HO_5 := Aside0.mk (Kd.R_below (rq HO_5.out) hb)
                  replace HO_6 := Aside0.mk (Kd.R_below (rq HO_6.out) hb)
                  replace HO_9 := Aside0.mk (Kd.R_below (rq HO_9.out) hb)
                  replace BK201 := Aside0.mk (qaM (h0 BK201.out) hb)
                  replace BK225 := Aside0.mk (qaM (h0 BK225.out) hb)
                  replace BK230 := Aside0.mk (qaM (h0 BK230.out) hb)
                  replace HB := Aside0.mk (qaC (bq HB.out (.c GE201.out (.c GE225.out (.c GE230.out .n)))) hb)
                  (try clear hb)
                  (try clear hb2)
                  (try clear hk)
                  (try clear hi)
                  refine hK.out _ _ ⟨(qaD BK225.out 0).trans rfl, (qaD BK225.out 1).trans rfl, (qaD BK230.out 0).trans rfl, (qaD BK230.out 1).trans rfl, HS4_, HS5_, HS6_, HS7_, HS8_, HS9_, HS10_, HS11_⟩ (fun hHeld => ?_)
                  clear hK K
                  refine nA (some 160) ?_
                  refine pA 30 (some 161) HT_ ?_
                  refine pA 31 (some 162) HT_ ?_
                  refine pA 32 (some 163) HT_ ?_
                  refine pA 33 (some 164) HT_ ?_
                  refine pA 34 (some 165) HT_ ?_
                  refine pA 35 (some 166) HT_ ?_
                  refine pA 36 (some 167) HT_ ?_
                  refine tA 37 (some 168) HT_ HW_ hHeld ?_
                  refine oA 38 (some 169) HT_ fun K hK => ?_
                  refine gs Try.func17 #[.slice Ao15 t196.length co15, .agg #[.int .i64 ((qaN t202 x16_3).f0), .int .i64 ((qaN t202 x16_3).f1)]] rfl ?_
                  with_reducible refine (qaT.calls _ _ t196 ((qaN t202 x16_3).f0) ((qaN t202 x16_3).f1) t238 _ ?side1 ?side2 A82.out).mono ?_
                  (case side1 => repeat (first | exact (Kd.R_reads' HO_6.out).2.2 | (with_reducible refine Kd.C_alloc ?_ _) | (with_reducible refine Kd.C_drewN ?_ _) | (with_reducible refine Kd.C_drew ?_)))
                  (case side2 => exact (Kd.R_reads' HO_6.out).2.1)
                  rintro e w88 ⟨rfl, hb⟩
                  have HS4_ := hcb hb hHeld.2.2.2.2.1
                  have HS5_ := hcb hb hHeld.2.2.2.2.2.1
                  have HS6_ := hcb hb hHeld.2.2.2.2.2.2.1
                  have HS7_ := hcb hb hHeld.2.2.2.2.2.2.2.1
                  have HS8_ := hcb hb hHeld.2.2.2.2.2.2.2.2.1
                  have HS9_ := hcb hb hHeld.2.2.2.2.2.2.2.2.2.1
                  have HS10_ := hcb hb hHeld.2.2.2.2.2.2.2.2.2.2.1
                  have HS11_ := hcb hb hHeld.2.2.2.2.2.2.2.2.2.2.2
                  refine ⟨_, rfl, ?_⟩
                  replace HO_5 := Aside0.mk (Kd.R_below (rq HO_5.out) hb)
                  replace HO_6 := Aside0.mk (Kd.R_below (rq HO_6.out) hb)
                  replace HO_9 := Aside0.mk (Kd.R_below (rq HO_9.out) hb)
                  replace BK201 := Aside0.mk (qaM (h0 BK201.out) hb)
                  replace BK225 := Aside0.mk (qaM (h0 BK225.out) hb)
                  replace BK230 := Aside0.mk (qaM (h0 BK230.out) hb)
                  replace HB := Aside0.mk (qaC (bq HB.out (.c GE201.out (.c GE225.out (.c GE230.out .n)))) hb)
                  (try clear hb)
                  (try clear hb2)
                  (try clear hk)
                  (try clear hi)
                  refine hK.out _ _ ⟨(qaD BK225.out 0).trans rfl, (qaD BK225.out 1).trans rfl, (qaD BK230.out 0).trans rfl, (qaD BK230.out 1).trans rfl, HS4_, HS5_, HS6_, HS7_, HS8_, HS9_, HS10_, HS11_⟩ (fun hHeld => ?_)
                  clear hK K
                  refine nA (some 169) ?_
                  refine pA 39 (some 170) HT_ ?_
                  refine pA 40 (some 171) HT_ ?_
                  refine qfD (qe3 HT_.out (by kernel_rfl)) ?_
                  try go_wp2
                  go_meet
                  case rel => exact ⟨_, (!t238), er, H', ⟨by have := HJ8.out; have := HK2.out; have := HK3.out; first | omega | exact Nat.le_refl _⟩, ⟨rq HO_5.out⟩, ⟨rq HO_6.out⟩, ⟨rq HO_9.out⟩, ⟨h0 BK201.out⟩, ⟨h0 BK225.out⟩, ⟨h0 BK230.out⟩, ⟨bq HB.out (.c GE201.out (.c GE225.out (.c GE230.out .n)))⟩⟩
                 ·as_aux_lemma =>
                  replace c81 := Bool.eq_false_iff.mpr c81
                  subst c81
                  have H1 : (qaA.j5 k3 t193 t196 t202 x16_3 true t222 t223 t227 t228) = some r := by rw [if_neg (show ¬ (false = true) by decide)] at H; exact H
                  clear H
                  have H := H1
                  clear H1
                  have H' := Aside0.mk H
                  clear H
                  try go_wp2
                  have n0_ : Aside0 (Kd.R (Kd.int .i64) 2 ((w70.setCell ⟨gb230, 0, none⟩ (.int .i64 t227)).setCell ⟨gb230, 1, none⟩ (.int .i64 t228)) w.heap.size (fun _ => True) (.slice Ao11 t193.length co11) t193) := ⟨by (with_reducible repeat (first | apply Kd.R_alloc | apply Kd.R_drewN | apply Kd.R_drew)); exact Kd.R_mono (Kd.R_far (p := ⟨gb230, 1, none⟩) (Kd.R_far (p := ⟨gb230, 0, none⟩) (Kd.R_types HO_5.out BK230.out (by decide)) (fun _ hk => hk.2) (.int .i64 t227)) (fun _ hk => hk.2) (.int .i64 t228)) (fun _ hk => trivial)⟩
                  have n1_ : Aside0 (Kd.R k31 31 ((w70.setCell ⟨gb230, 0, none⟩ (.int .i64 t227)).setCell ⟨gb230, 1, none⟩ (.int .i64 t228)) w.heap.size (fun k_ => some k_ ≠ (.slice (some ad221) t202.length co64 : Value).ownBlock ∧ k_ ≠ gb201 ∧ k_ ≠ gb225 ∧ k_ ≠ gb230) (.slice Ao15 t196.length co15) t196) := ⟨by (with_reducible repeat (first | apply Kd.R_alloc | apply Kd.R_drewN | apply Kd.R_drew)); exact Kd.R_mono (Kd.R_far (p := ⟨gb230, 1, none⟩) (Kd.R_far (p := ⟨gb230, 0, none⟩) (Kd.R_mono HO_6.out (fun k_ hk => (⟨hk, hk.2⟩ : _ ∧ k_ ≠ gb230))) (fun _ hk => hk.2) (.int .i64 t227)) (fun _ hk => hk.2) (.int .i64 t228)) (fun _ hk => ⟨hk.1.1.1.1, ⟨hk.1.1.1.2, ⟨hk.1.1.2, hk.1.2⟩⟩⟩)⟩
                  have n2_ : Aside0 (Kd.R k31 31 ((w70.setCell ⟨gb230, 0, none⟩ (.int .i64 t227)).setCell ⟨gb230, 1, none⟩ (.int .i64 t228)) w.heap.size (fun k_ => some k_ ≠ (.slice Ao15 t196.length co15 : Value).ownBlock ∧ k_ ≠ gb201 ∧ k_ ≠ gb225 ∧ k_ ≠ gb230) (.slice (some ad221) t202.length co64) t202) := ⟨by (with_reducible repeat (first | apply Kd.R_alloc | apply Kd.R_drewN | apply Kd.R_drew)); exact Kd.R_mono (Kd.R_far (p := ⟨gb230, 1, none⟩) (Kd.R_far (p := ⟨gb230, 0, none⟩) (Kd.R_mono HO_9.out (fun k_ hk => (⟨hk, hk.2⟩ : _ ∧ k_ ≠ gb230))) (fun _ hk => hk.2) (.int .i64 t227)) (fun _ hk => hk.2) (.int .i64 t228)) (fun _ hk => ⟨hk.1.1.1.1, ⟨hk.1.1.1.2, ⟨hk.1.1.2, hk.1.2⟩⟩⟩)⟩
                  have n3_ : Aside0 (((w70.setCell ⟨gb230, 0, none⟩ (.int .i64 t227)).setCell ⟨gb230, 1, none⟩ (.int .i64 t228)).heap[gb201]? = some (.cells #[.int .i64 (-23622320128), .int .i64 (wrap64 (21474836480 + t200))] 31 (0, 0))) := ⟨hq BK201.out (.c NB201_230.out .n)⟩
                  have n4_ : Aside0 (((w70.setCell ⟨gb230, 0, none⟩ (.int .i64 t227)).setCell ⟨gb230, 1, none⟩ (.int .i64 t228)).heap[gb225]? = some (.cells #[.int .i64 t222, .int .i64 t223] 31 (0, 0))) := ⟨hq BK225.out (.c NB225_230.out .n)⟩
                  have n5_ : Aside0 (((w70.setCell ⟨gb230, 0, none⟩ (.int .i64 t227)).setCell ⟨gb230, 1, none⟩ (.int .i64 t228)).heap[gb230]? = some (.cells #[.int .i64 t227, .int .i64 t228] 31 (0, 0))) := ⟨by refine hp ?_; refine qdO (cs := #[.int .i64 t227, .int .i64 0]) ?_ 1 _ rfl; refine hp ?_; refine qdO (cs := #[.int .i64 0, .int .i64 0]) ?_ 0 _ rfl; exact h0 BK230.out⟩
                  have n6_ : Aside0 (Below w.heap.size w ((w70.setCell ⟨gb230, 0, none⟩ (.int .i64 t227)).setCell ⟨gb230, 1, none⟩ (.int .i64 t228))) := ⟨bq HB.out (.c GE201.out (.c GE225.out (.c GE230.out .n)))⟩
                  (try clear HO_5)
                  (try clear HO_6)
                  (try clear HO_9)
                  (try clear BK201)
                  (try clear BK225)
                  (try clear BK230)
                  (try clear HB)
                  generalize ((w70.setCell ⟨gb230, 0, none⟩ (.int .i64 t227)).setCell ⟨gb230, 1, none⟩ (.int .i64 t228)) = w89 at n0_ n1_ n2_ n3_ n4_ n5_ n6_ ⊢
                  have HO_5 := n0_
                  have HO_6 := n1_
                  have HO_9 := n2_
                  have BK201 := n3_
                  have BK225 := n4_
                  have BK230 := n5_
                  have HB := n6_
                  clear n0_ n1_ n2_ n3_ n4_ n5_ n6_
                  replace HO_5 := Aside0.mk (Kd.R_drew HO_5.out)
                  replace HO_6 := Aside0.mk (Kd.R_drew HO_6.out)
                  replace HO_9 := Aside0.mk (Kd.R_drew HO_9.out)
                  replace BK201 := Aside0.mk (qbQ BK201.out)
                  replace BK225 := Aside0.mk (qbQ BK225.out)
                  replace BK230 := Aside0.mk (qbQ BK230.out)
                  replace HB := Aside0.mk (qbH HB.out)
                  have p231 : 0 ≤ (x16_3 : Int) := od
                  have q231 : x16_3 < (t202.length : Int) := od
                  obtain ⟨ad231, e231, hx231_0, hx231_1⟩ := qe8 (Kd.R_reads' HO_9.out).2.2 x16_3 p231 q231
                  obtain rfl : ad221 = ad231 := (by injection e231)
                  replace p231 := eq_true p231
                  replace q231 := eq_true q231
                  have p233 : 0 ≤ (x16_3 : Int) := od
                  have q233 : x16_3 < (t202.length : Int) := od
                  obtain ⟨ad233, e233, hx233_0, hx233_1⟩ := qe8 (Kd.R_reads' HO_9.out).2.2 x16_3 p233 q233
                  obtain rfl : ad221 = ad233 := (by injection e233)
                  replace p233 := eq_true p233
                  replace q233 := eq_true q233
                  have p235 : 0 ≤ (x16_3 : Int) := od
                  have q235 : x16_3 < (t202.length : Int) := od
                  obtain ⟨ad235, e235, hx235_0, hx235_1⟩ := qe8 (Kd.R_reads' HO_9.out).2.2 x16_3 p235 q235
                  obtain rfl : ad221 = ad235 := (by injection e235)
                  replace p235 := eq_true p235
                  replace q235 := eq_true q235
                  refine qd3 (n := 41) (S := fun w' => w'.cell? ⟨gb225, 0, none⟩ = some (.int .i64 t222) ∧ w'.cell? ⟨gb225, 1, none⟩ = some (.int .i64 t223) ∧ w'.cell? ⟨gb230, 0, none⟩ = some (.int .i64 t227) ∧ w'.cell? ⟨gb230, 1, none⟩ = some (.int .i64 t228) ∧ w'.cell? (ad221.add ((x16_3).toNat * 2)) = some (.int .i64 ((qaN t202 x16_3).f0)) ∧ w'.cell? ⟨(ad221.add ((x16_3).toNat * 2)).block, (ad221.add ((x16_3).toNat * 2)).off + 1, none⟩ = some (.int .i64 ((qaN t202 x16_3).f1)) ∧ w'.cell? (ad221.add ((x16_3).toNat * 2)) = some (.int .i64 ((qaN t202 x16_3).f0)) ∧ w'.cell? ⟨(ad221.add ((x16_3).toNat * 2)).block, (ad221.add ((x16_3).toNat * 2)).off + 1, none⟩ = some (.int .i64 ((qaN t202 x16_3).f1)) ∧ w'.cell? (ad221.add ((x16_3).toNat * 2)) = some (.int .i64 ((qaN t202 x16_3).f0)) ∧ w'.cell? ⟨(ad221.add ((x16_3).toNat * 2)).block, (ad221.add ((x16_3).toNat * 2)).off + 1, none⟩ = some (.int .i64 ((qaN t202 x16_3).f1))) (ds := []) #[false, false, false, false, false, false, false, false, false, false, false, false, false, false, false, false, false, false, false, false, false, false, false, false, false, false, false, false, false, false, false, false, false, false, false, false, false, false, false, false, false] (by kernel_rfl) rfl rfl ⟨(qaD BK225.out 0).trans rfl, (qaD BK225.out 1).trans rfl, (qaD BK230.out 0).trans rfl, (qaD BK230.out 1).trans rfl, hx231_0, hx231_1, hx233_0, hx233_1, hx235_0, hx235_1⟩ (fun hHeld => ?_); refine qdW qaA.tab28 qaA.bits28 (fun HT_ HW_ => ?_)
                  generalize w89.drew = w90 at HO_5 HO_6 HO_9 BK201 BK225 BK230 HB hx231_0 hx231_1 hx233_0 hx233_1 hx235_0 hx235_1 hHeld ⊢
                  refine pA 0 (some 131) HT_ ?_
                  refine pA 1 (some 132) HT_ ?_
                  refine pA 2 (some 133) HT_ ?_
                  refine pA 3 (some 134) HT_ ?_
                  refine pA 4 (some 135) HT_ ?_
                  refine pA 5 (some 136) HT_ ?_
                  refine pA 6 (some 137) HT_ ?_
                  refine pA 7 (some 138) HT_ ?_
                  refine pA 8 (some 139) HT_ ?_
                  refine pA 9 (some 140) HT_ ?_
                  refine tA 10 (some 141) HT_ HW_ hHeld ?_
                  refine oA 11 (some 142) HT_ fun K hK => ?_
                  refine gs Try.func15 #[.agg #[.int .i64 ((qaN t202 x16_3).f0), .int .i64 ((qaN t202 x16_3).f1)]] rfl ?_
                  with_reducible refine (qbG.calls ((qaN t202 x16_3).f0) ((qaN t202 x16_3).f1) true _ A76.out).mono ?_
                  rintro e w91 ⟨rfl, hb⟩
                  have HS4_ := hcb hb hHeld.2.2.2.2.1
                  have HS5_ := hcb hb hHeld.2.2.2.2.2.1
                  have HS6_ := hcb hb hHeld.2.2.2.2.2.2.1
                  have HS7_ := hcb hb hHeld.2.2.2.2.2.2.2.1
                  have HS8_ := hcb hb hHeld.2.2.2.2.2.2.2.2.1
                  have HS9_ := hcb hb hHeld.2.2.2.2.2.2.2.2.2
                  refine ⟨_, rfl, ?_⟩
                  replace HO_5 := Aside0.mk (Kd.R_below (rq HO_5.out) hb)
                  replace HO_6 := Aside0.mk (Kd.R_below (rq HO_6.out) hb)
                  replace HO_9 := Aside0.mk (Kd.R_below (rq HO_9.out) hb)
                  replace BK201 := Aside0.mk (qaM (h0 BK201.out) hb)
                  replace BK225 := Aside0.mk (qaM (h0 BK225.out) hb)
                  replace BK230 := Aside0.mk (qaM (h0 BK230.out) hb)
                  replace HB := Aside0.mk (qaC (bq HB.out (.c GE201.out (.c GE225.out (.c GE230.out .n)))) hb)
                  (try clear hb)
                  (try clear hb2)
                  (try clear hk)
                  (try clear hi)
                  refine hK.out _ _ ⟨(qaD BK225.out 0).trans rfl, (qaD BK225.out 1).trans rfl, (qaD BK230.out 0).trans rfl, (qaD BK230.out 1).trans rfl, HS4_, HS5_, HS6_, HS7_, HS8_, HS9_⟩ (fun hHeld => ?_)
                  clear hK K
                  refine nA (some 142) ?_
                  refine pA 12 (some 143) HT_ ?_
                  refine pA 13 (some 144) HT_ ?_
                  refine pA 14 (some 145) HT_ ?_
                  refine pA 16 (some 147) HT_ ?_
                  refine pA 17 (some 148) HT_ ?_
                  refine pA 18 (some 149) HT_ ?_
                  refine tA 15 (some 146) HT_ HW_ hHeld ?_
                  refine tA 19 (some 150) HT_ HW_ hHeld ?_
                  refine oA 20 (some 151) HT_ fun K hK => ?_
                  refine gs Try.func16 #[.agg #[.int .i64 t222, .int .i64 t223], .agg #[.int .i64 ((qaN t202 x16_3).f0), .int .i64 ((qaN t202 x16_3).f1)]] rfl ?_
                  with_reducible refine (qbM.calls t222 t223 ((qaN t202 x16_3).f0) ((qaN t202 x16_3).f1) true _ A78.out).mono ?_
                  rintro e w92 ⟨rfl, hb⟩
                  have HS4_ := hcb hb hHeld.2.2.2.2.1
                  have HS5_ := hcb hb hHeld.2.2.2.2.2.1
                  have HS6_ := hcb hb hHeld.2.2.2.2.2.2.1
                  have HS7_ := hcb hb hHeld.2.2.2.2.2.2.2.1
                  have HS8_ := hcb hb hHeld.2.2.2.2.2.2.2.2.1
                  have HS9_ := hcb hb hHeld.2.2.2.2.2.2.2.2.2
                  refine ⟨_, rfl, ?_⟩
                  replace HO_5 := Aside0.mk (Kd.R_below (rq HO_5.out) hb)
                  replace HO_6 := Aside0.mk (Kd.R_below (rq HO_6.out) hb)
                  replace HO_9 := Aside0.mk (Kd.R_below (rq HO_9.out) hb)
                  replace BK201 := Aside0.mk (qaM (h0 BK201.out) hb)
                  replace BK225 := Aside0.mk (qaM (h0 BK225.out) hb)
                  replace BK230 := Aside0.mk (qaM (h0 BK230.out) hb)
                  replace HB := Aside0.mk (qaC (bq HB.out (.c GE201.out (.c GE225.out (.c GE230.out .n)))) hb)
                  (try clear hb)
                  (try clear hb2)
                  (try clear hk)
                  (try clear hi)
                  refine hK.out _ _ ⟨(qaD BK225.out 0).trans rfl, (qaD BK225.out 1).trans rfl, (qaD BK230.out 0).trans rfl, (qaD BK230.out 1).trans rfl, HS4_, HS5_, HS6_, HS7_, HS8_, HS9_⟩ (fun hHeld => ?_)
                  clear hK K
                  refine nA (some 151) ?_
                  refine pA 21 (some 152) HT_ ?_
                  refine pA 22 (some 153) HT_ ?_
                  refine pA 23 (some 154) HT_ ?_
                  refine pA 25 (some 156) HT_ ?_
                  refine pA 26 (some 157) HT_ ?_
                  refine pA 27 (some 158) HT_ ?_
                  refine tA 24 (some 155) HT_ HW_ hHeld ?_
                  refine tA 28 (some 159) HT_ HW_ hHeld ?_
                  refine oA 29 (some 160) HT_ fun K hK => ?_
                  refine gs Try.func16 #[.agg #[.int .i64 t227, .int .i64 t228], .agg #[.int .i64 ((qaN t202 x16_3).f0), .int .i64 ((qaN t202 x16_3).f1)]] rfl ?_
                  with_reducible refine (qbM.calls t227 t228 ((qaN t202 x16_3).f0) ((qaN t202 x16_3).f1) false _ A80.out).mono ?_
                  rintro e w93 ⟨rfl, hb⟩
                  have HS4_ := hcb hb hHeld.2.2.2.2.1
                  have HS5_ := hcb hb hHeld.2.2.2.2.2.1
                  have HS6_ := hcb hb hHeld.2.2.2.2.2.2.1
                  have HS7_ := hcb hb hHeld.2.2.2.2.2.2.2.1
                  have HS8_ := hcb hb hHeld.2.2.2.2.2.2.2.2.1
                  have HS9_ := hcb hb hHeld.2.2.2.2.2.2.2.2.2
                  refine ⟨_, rfl, ?_⟩
                  replace HO_5 := Aside0.mk (Kd.R_below (rq HO_5.out) hb)
                  replace HO_6 := Aside0.mk (Kd.R_below (rq HO_6.out) hb)
                  replace HO_9 := Aside0.mk (Kd.R_below (rq HO_9.out) hb)
                  replace BK201 := Aside0.mk (qaM (h0 BK201.out) hb)
                  replace BK225 := Aside0.mk (qaM (h0 BK225.out) hb)
                  replace BK230 := Aside0.mk (qaM (h0 BK230.out) hb)
                  replace HB := Aside0.mk (qaC (bq HB.out (.c GE201.out (.c GE225.out (.c GE230.out .n)))) hb)
                  (try clear hb)
                  (try clear hb2)
                  (try clear hk)
                  (try clear hi)
                  refine hK.out _ _ ⟨(qaD BK225.out 0).trans rfl, (qaD BK225.out 1).trans rfl, (qaD BK230.out 0).trans rfl, (qaD BK230.out 1).trans rfl, HS4_, HS5_, HS6_, HS7_, HS8_, HS9_⟩ (fun hHeld => ?_)
                  clear hK K
                  refine nA (some 160) ?_
                  refine pA 30 (some 161) HT_ ?_
                  refine pA 31 (some 162) HT_ ?_
                  refine pA 32 (some 163) HT_ ?_
                  refine pB 33 (some 164) HT_ ?_
                  refine pB 34 (some 165) HT_ ?_
                  refine pB 35 (some 166) HT_ ?_
                  refine pB 36 (some 167) HT_ ?_
                  refine pB 37 (some 168) HT_ ?_
                  refine pB 38 (some 169) HT_ ?_
                  refine pB 39 (some 170) HT_ ?_
                  refine pA 40 (some 171) HT_ ?_
                  refine qfD (qe3 HT_.out (by kernel_rfl)) ?_
                  try go_wp2
                  go_meet
                  case rel => exact ⟨_, (true), er, H', ⟨by have := HJ8.out; have := HK2.out; have := HK3.out; first | omega | exact Nat.le_refl _⟩, ⟨rq HO_5.out⟩, ⟨rq HO_6.out⟩, ⟨rq HO_9.out⟩, ⟨h0 BK201.out⟩, ⟨h0 BK225.out⟩, ⟨h0 BK230.out⟩, ⟨bq HB.out (.c GE201.out (.c GE225.out (.c GE230.out .n)))⟩⟩
                ·as_aux_lemma =>
                 replace c79 := Bool.eq_false_iff.mpr c79
                 subst c79
                 have H1 : (qaA.j5 k3 t193 t196 t202 x16_3 true t222 t223 t227 t228) = some r := by rw [if_neg (show ¬ (false = true) by decide)] at H; exact H
                 clear H
                 have H := H1
                 clear H1
                 have H' := Aside0.mk H
                 clear H
                 try go_wp2
                 have n0_ : Aside0 (Kd.R (Kd.int .i64) 2 ((w70.setCell ⟨gb230, 0, none⟩ (.int .i64 t227)).setCell ⟨gb230, 1, none⟩ (.int .i64 t228)) w.heap.size (fun _ => True) (.slice Ao11 t193.length co11) t193) := ⟨by (with_reducible repeat (first | apply Kd.R_alloc | apply Kd.R_drewN | apply Kd.R_drew)); exact Kd.R_mono (Kd.R_far (p := ⟨gb230, 1, none⟩) (Kd.R_far (p := ⟨gb230, 0, none⟩) (Kd.R_types HO_5.out BK230.out (by decide)) (fun _ hk => hk.2) (.int .i64 t227)) (fun _ hk => hk.2) (.int .i64 t228)) (fun _ hk => trivial)⟩
                 have n1_ : Aside0 (Kd.R k31 31 ((w70.setCell ⟨gb230, 0, none⟩ (.int .i64 t227)).setCell ⟨gb230, 1, none⟩ (.int .i64 t228)) w.heap.size (fun k_ => some k_ ≠ (.slice (some ad221) t202.length co64 : Value).ownBlock ∧ k_ ≠ gb201 ∧ k_ ≠ gb225 ∧ k_ ≠ gb230) (.slice Ao15 t196.length co15) t196) := ⟨by (with_reducible repeat (first | apply Kd.R_alloc | apply Kd.R_drewN | apply Kd.R_drew)); exact Kd.R_mono (Kd.R_far (p := ⟨gb230, 1, none⟩) (Kd.R_far (p := ⟨gb230, 0, none⟩) (Kd.R_mono HO_6.out (fun k_ hk => (⟨hk, hk.2⟩ : _ ∧ k_ ≠ gb230))) (fun _ hk => hk.2) (.int .i64 t227)) (fun _ hk => hk.2) (.int .i64 t228)) (fun _ hk => ⟨hk.1.1.1.1, ⟨hk.1.1.1.2, ⟨hk.1.1.2, hk.1.2⟩⟩⟩)⟩
                 have n2_ : Aside0 (Kd.R k31 31 ((w70.setCell ⟨gb230, 0, none⟩ (.int .i64 t227)).setCell ⟨gb230, 1, none⟩ (.int .i64 t228)) w.heap.size (fun k_ => some k_ ≠ (.slice Ao15 t196.length co15 : Value).ownBlock ∧ k_ ≠ gb201 ∧ k_ ≠ gb225 ∧ k_ ≠ gb230) (.slice (some ad221) t202.length co64) t202) := ⟨by (with_reducible repeat (first | apply Kd.R_alloc | apply Kd.R_drewN | apply Kd.R_drew)); exact Kd.R_mono (Kd.R_far (p := ⟨gb230, 1, none⟩) (Kd.R_far (p := ⟨gb230, 0, none⟩) (Kd.R_mono HO_9.out (fun k_ hk => (⟨hk, hk.2⟩ : _ ∧ k_ ≠ gb230))) (fun _ hk => hk.2) (.int .i64 t227)) (fun _ hk => hk.2) (.int .i64 t228)) (fun _ hk => ⟨hk.1.1.1.1, ⟨hk.1.1.1.2, ⟨hk.1.1.2, hk.1.2⟩⟩⟩)⟩
                 have n3_ : Aside0 (((w70.setCell ⟨gb230, 0, none⟩ (.int .i64 t227)).setCell ⟨gb230, 1, none⟩ (.int .i64 t228)).heap[gb201]? = some (.cells #[.int .i64 (-23622320128), .int .i64 (wrap64 (21474836480 + t200))] 31 (0, 0))) := ⟨hq BK201.out (.c NB201_230.out .n)⟩
                 have n4_ : Aside0 (((w70.setCell ⟨gb230, 0, none⟩ (.int .i64 t227)).setCell ⟨gb230, 1, none⟩ (.int .i64 t228)).heap[gb225]? = some (.cells #[.int .i64 t222, .int .i64 t223] 31 (0, 0))) := ⟨hq BK225.out (.c NB225_230.out .n)⟩
                 have n5_ : Aside0 (((w70.setCell ⟨gb230, 0, none⟩ (.int .i64 t227)).setCell ⟨gb230, 1, none⟩ (.int .i64 t228)).heap[gb230]? = some (.cells #[.int .i64 t227, .int .i64 t228] 31 (0, 0))) := ⟨by refine hp ?_; refine qdO (cs := #[.int .i64 t227, .int .i64 0]) ?_ 1 _ rfl; refine hp ?_; refine qdO (cs := #[.int .i64 0, .int .i64 0]) ?_ 0 _ rfl; exact h0 BK230.out⟩
                 have n6_ : Aside0 (Below w.heap.size w ((w70.setCell ⟨gb230, 0, none⟩ (.int .i64 t227)).setCell ⟨gb230, 1, none⟩ (.int .i64 t228))) := ⟨bq HB.out (.c GE201.out (.c GE225.out (.c GE230.out .n)))⟩
                 (try clear HO_5)
                 (try clear HO_6)
                 (try clear HO_9)
                 (try clear BK201)
                 (try clear BK225)
                 (try clear BK230)
                 (try clear HB)
                 generalize ((w70.setCell ⟨gb230, 0, none⟩ (.int .i64 t227)).setCell ⟨gb230, 1, none⟩ (.int .i64 t228)) = w94 at n0_ n1_ n2_ n3_ n4_ n5_ n6_ ⊢
                 have HO_5 := n0_
                 have HO_6 := n1_
                 have HO_9 := n2_
                 have BK201 := n3_
                 have BK225 := n4_
                 have BK230 := n5_
                 have HB := n6_
                 clear n0_ n1_ n2_ n3_ n4_ n5_ n6_
                 replace HO_5 := Aside0.mk (Kd.R_drew HO_5.out)
                 replace HO_6 := Aside0.mk (Kd.R_drew HO_6.out)
                 replace HO_9 := Aside0.mk (Kd.R_drew HO_9.out)
                 replace BK201 := Aside0.mk (qbQ BK201.out)
                 replace BK225 := Aside0.mk (qbQ BK225.out)
                 replace BK230 := Aside0.mk (qbQ BK230.out)
                 replace HB := Aside0.mk (qbH HB.out)
                 have p231 : 0 ≤ (x16_3 : Int) := od
                 have q231 : x16_3 < (t202.length : Int) := od
                 obtain ⟨ad231, e231, hx231_0, hx231_1⟩ := qe8 (Kd.R_reads' HO_9.out).2.2 x16_3 p231 q231
                 obtain rfl : ad221 = ad231 := (by injection e231)
                 replace p231 := eq_true p231
                 replace q231 := eq_true q231
                 have p233 : 0 ≤ (x16_3 : Int) := od
                 have q233 : x16_3 < (t202.length : Int) := od
                 obtain ⟨ad233, e233, hx233_0, hx233_1⟩ := qe8 (Kd.R_reads' HO_9.out).2.2 x16_3 p233 q233
                 obtain rfl : ad221 = ad233 := (by injection e233)
                 replace p233 := eq_true p233
                 replace q233 := eq_true q233
                 refine qd3 (n := 41) (S := fun w' => w'.cell? ⟨gb225, 0, none⟩ = some (.int .i64 t222) ∧ w'.cell? ⟨gb225, 1, none⟩ = some (.int .i64 t223) ∧ w'.cell? (ad221.add ((x16_3).toNat * 2)) = some (.int .i64 ((qaN t202 x16_3).f0)) ∧ w'.cell? ⟨(ad221.add ((x16_3).toNat * 2)).block, (ad221.add ((x16_3).toNat * 2)).off + 1, none⟩ = some (.int .i64 ((qaN t202 x16_3).f1)) ∧ w'.cell? (ad221.add ((x16_3).toNat * 2)) = some (.int .i64 ((qaN t202 x16_3).f0)) ∧ w'.cell? ⟨(ad221.add ((x16_3).toNat * 2)).block, (ad221.add ((x16_3).toNat * 2)).off + 1, none⟩ = some (.int .i64 ((qaN t202 x16_3).f1))) (ds := []) #[false, false, false, false, false, false, false, false, false, false, false, false, false, false, false, false, false, false, false, false, false, false, false, false, false, false, false, false, false, false, false, false, false, false, false, false, false, false, false, false, false] (by kernel_rfl) rfl rfl ⟨(qaD BK225.out 0).trans rfl, (qaD BK225.out 1).trans rfl, hx231_0, hx231_1, hx233_0, hx233_1⟩ (fun hHeld => ?_); refine qdW qaA.tab28 qaA.bits28 (fun HT_ HW_ => ?_)
                 generalize w94.drew = w95 at HO_5 HO_6 HO_9 BK201 BK225 BK230 HB hx231_0 hx231_1 hx233_0 hx233_1 hHeld ⊢
                 refine pA 0 (some 131) HT_ ?_
                 refine pA 1 (some 132) HT_ ?_
                 refine pA 2 (some 133) HT_ ?_
                 refine pA 3 (some 134) HT_ ?_
                 refine pA 4 (some 135) HT_ ?_
                 refine pA 5 (some 136) HT_ ?_
                 refine pA 6 (some 137) HT_ ?_
                 refine pA 7 (some 138) HT_ ?_
                 refine pA 8 (some 139) HT_ ?_
                 refine pA 9 (some 140) HT_ ?_
                 refine tA 10 (some 141) HT_ HW_ hHeld ?_
                 refine oA 11 (some 142) HT_ fun K hK => ?_
                 refine gs Try.func15 #[.agg #[.int .i64 ((qaN t202 x16_3).f0), .int .i64 ((qaN t202 x16_3).f1)]] rfl ?_
                 with_reducible refine (qbG.calls ((qaN t202 x16_3).f0) ((qaN t202 x16_3).f1) true _ A76.out).mono ?_
                 rintro e w96 ⟨rfl, hb⟩
                 have HS2_ := hcb hb hHeld.2.2.1
                 have HS3_ := hcb hb hHeld.2.2.2.1
                 have HS4_ := hcb hb hHeld.2.2.2.2.1
                 have HS5_ := hcb hb hHeld.2.2.2.2.2
                 refine ⟨_, rfl, ?_⟩
                 replace HO_5 := Aside0.mk (Kd.R_below (rq HO_5.out) hb)
                 replace HO_6 := Aside0.mk (Kd.R_below (rq HO_6.out) hb)
                 replace HO_9 := Aside0.mk (Kd.R_below (rq HO_9.out) hb)
                 replace BK201 := Aside0.mk (qaM (h0 BK201.out) hb)
                 replace BK225 := Aside0.mk (qaM (h0 BK225.out) hb)
                 replace BK230 := Aside0.mk (qaM (h0 BK230.out) hb)
                 replace HB := Aside0.mk (qaC (bq HB.out (.c GE201.out (.c GE225.out (.c GE230.out .n)))) hb)
                 (try clear hb)
                 (try clear hb2)
                 (try clear hk)
                 (try clear hi)
                 refine hK.out _ _ ⟨(qaD BK225.out 0).trans rfl, (qaD BK225.out 1).trans rfl, HS2_, HS3_, HS4_, HS5_⟩ (fun hHeld => ?_)
                 clear hK K
                 refine nA (some 142) ?_
                 refine pA 12 (some 143) HT_ ?_
                 refine pA 13 (some 144) HT_ ?_
                 refine pA 14 (some 145) HT_ ?_
                 refine pA 16 (some 147) HT_ ?_
                 refine pA 17 (some 148) HT_ ?_
                 refine pA 18 (some 149) HT_ ?_
                 refine tA 15 (some 146) HT_ HW_ hHeld ?_
                 refine tA 19 (some 150) HT_ HW_ hHeld ?_
                 refine oA 20 (some 151) HT_ fun K hK => ?_
                 refine gs Try.func16 #[.agg #[.int .i64 t222, .int .i64 t223], .agg #[.int .i64 ((qaN t202 x16_3).f0), .int .i64 ((qaN t202 x16_3).f1)]] rfl ?_
                 with_reducible refine (qbM.calls t222 t223 ((qaN t202 x16_3).f0) ((qaN t202 x16_3).f1) false _ A78.out).mono ?_
                 rintro e w97 ⟨rfl, hb⟩
                 have HS2_ := hcb hb hHeld.2.2.1
                 have HS3_ := hcb hb hHeld.2.2.2.1
                 have HS4_ := hcb hb hHeld.2.2.2.2.1
                 have HS5_ := hcb hb hHeld.2.2.2.2.2
                 refine ⟨_, rfl, ?_⟩
                 replace HO_5 := Aside0.mk (Kd.R_below (rq HO_5.out) hb)
                 replace HO_6 := Aside0.mk (Kd.R_below (rq HO_6.out) hb)
                 replace HO_9 := Aside0.mk (Kd.R_below (rq HO_9.out) hb)
                 replace BK201 := Aside0.mk (qaM (h0 BK201.out) hb)
                 replace BK225 := Aside0.mk (qaM (h0 BK225.out) hb)
                 replace BK230 := Aside0.mk (qaM (h0 BK230.out) hb)
                 replace HB := Aside0.mk (qaC (bq HB.out (.c GE201.out (.c GE225.out (.c GE230.out .n)))) hb)
                 (try clear hb)
                 (try clear hb2)
                 (try clear hk)
                 (try clear hi)
                 refine hK.out _ _ ⟨(qaD BK225.out 0).trans rfl, (qaD BK225.out 1).trans rfl, HS2_, HS3_, HS4_, HS5_⟩ (fun hHeld => ?_)
                 clear hK K
                 refine nA (some 151) ?_
                 refine pA 21 (some 152) HT_ ?_
                 refine pA 22 (some 153) HT_ ?_
                 refine pA 23 (some 154) HT_ ?_
                 refine pB 24 (some 155) HT_ ?_
                 refine pB 25 (some 156) HT_ ?_
                 refine pB 26 (some 157) HT_ ?_
                 refine pB 27 (some 158) HT_ ?_
                 refine pB 28 (some 159) HT_ ?_
                 refine pB 29 (some 160) HT_ ?_
                 refine pB 30 (some 161) HT_ ?_
                 refine pA 31 (some 162) HT_ ?_
                 refine pA 32 (some 163) HT_ ?_
                 refine pB 33 (some 164) HT_ ?_
                 refine pB 34 (some 165) HT_ ?_
                 refine pB 35 (some 166) HT_ ?_
                 refine pB 36 (some 167) HT_ ?_
                 refine pB 37 (some 168) HT_ ?_
                 refine pB 38 (some 169) HT_ ?_
                 refine pB 39 (some 170) HT_ ?_
                 refine pA 40 (some 171) HT_ ?_
                 refine qfD (qe3 HT_.out (by kernel_rfl)) ?_
                 try go_wp2
                 go_meet
                 case rel => exact ⟨_, (true), er, H', ⟨by have := HJ8.out; have := HK2.out; have := HK3.out; first | omega | exact Nat.le_refl _⟩, ⟨rq HO_5.out⟩, ⟨rq HO_6.out⟩, ⟨rq HO_9.out⟩, ⟨h0 BK201.out⟩, ⟨h0 BK225.out⟩, ⟨h0 BK230.out⟩, ⟨bq HB.out (.c GE201.out (.c GE225.out (.c GE230.out .n)))⟩⟩
               ·as_aux_lemma =>
                replace c77 := Bool.eq_false_iff.mpr c77
                subst c77
                have H1 : (qaA.j5 k3 t193 t196 t202 x16_3 true t222 t223 t227 t228) = some r := by rw [if_neg (show ¬ (false = true) by decide)] at H; exact H
                clear H
                have H := H1
                clear H1
                have H' := Aside0.mk H
                clear H
                try go_wp2
                have n0_ : Aside0 (Kd.R (Kd.int .i64) 2 ((w70.setCell ⟨gb230, 0, none⟩ (.int .i64 t227)).setCell ⟨gb230, 1, none⟩ (.int .i64 t228)) w.heap.size (fun _ => True) (.slice Ao11 t193.length co11) t193) := ⟨by (with_reducible repeat (first | apply Kd.R_alloc | apply Kd.R_drewN | apply Kd.R_drew)); exact Kd.R_mono (Kd.R_far (p := ⟨gb230, 1, none⟩) (Kd.R_far (p := ⟨gb230, 0, none⟩) (Kd.R_types HO_5.out BK230.out (by decide)) (fun _ hk => hk.2) (.int .i64 t227)) (fun _ hk => hk.2) (.int .i64 t228)) (fun _ hk => trivial)⟩
                have n1_ : Aside0 (Kd.R k31 31 ((w70.setCell ⟨gb230, 0, none⟩ (.int .i64 t227)).setCell ⟨gb230, 1, none⟩ (.int .i64 t228)) w.heap.size (fun k_ => some k_ ≠ (.slice (some ad221) t202.length co64 : Value).ownBlock ∧ k_ ≠ gb201 ∧ k_ ≠ gb225 ∧ k_ ≠ gb230) (.slice Ao15 t196.length co15) t196) := ⟨by (with_reducible repeat (first | apply Kd.R_alloc | apply Kd.R_drewN | apply Kd.R_drew)); exact Kd.R_mono (Kd.R_far (p := ⟨gb230, 1, none⟩) (Kd.R_far (p := ⟨gb230, 0, none⟩) (Kd.R_mono HO_6.out (fun k_ hk => (⟨hk, hk.2⟩ : _ ∧ k_ ≠ gb230))) (fun _ hk => hk.2) (.int .i64 t227)) (fun _ hk => hk.2) (.int .i64 t228)) (fun _ hk => ⟨hk.1.1.1.1, ⟨hk.1.1.1.2, ⟨hk.1.1.2, hk.1.2⟩⟩⟩)⟩
                have n2_ : Aside0 (Kd.R k31 31 ((w70.setCell ⟨gb230, 0, none⟩ (.int .i64 t227)).setCell ⟨gb230, 1, none⟩ (.int .i64 t228)) w.heap.size (fun k_ => some k_ ≠ (.slice Ao15 t196.length co15 : Value).ownBlock ∧ k_ ≠ gb201 ∧ k_ ≠ gb225 ∧ k_ ≠ gb230) (.slice (some ad221) t202.length co64) t202) := ⟨by (with_reducible repeat (first | apply Kd.R_alloc | apply Kd.R_drewN | apply Kd.R_drew)); exact Kd.R_mono (Kd.R_far (p := ⟨gb230, 1, none⟩) (Kd.R_far (p := ⟨gb230, 0, none⟩) (Kd.R_mono HO_9.out (fun k_ hk => (⟨hk, hk.2⟩ : _ ∧ k_ ≠ gb230))) (fun _ hk => hk.2) (.int .i64 t227)) (fun _ hk => hk.2) (.int .i64 t228)) (fun _ hk => ⟨hk.1.1.1.1, ⟨hk.1.1.1.2, ⟨hk.1.1.2, hk.1.2⟩⟩⟩)⟩
                have n3_ : Aside0 (((w70.setCell ⟨gb230, 0, none⟩ (.int .i64 t227)).setCell ⟨gb230, 1, none⟩ (.int .i64 t228)).heap[gb201]? = some (.cells #[.int .i64 (-23622320128), .int .i64 (wrap64 (21474836480 + t200))] 31 (0, 0))) := ⟨hq BK201.out (.c NB201_230.out .n)⟩
                have n4_ : Aside0 (((w70.setCell ⟨gb230, 0, none⟩ (.int .i64 t227)).setCell ⟨gb230, 1, none⟩ (.int .i64 t228)).heap[gb225]? = some (.cells #[.int .i64 t222, .int .i64 t223] 31 (0, 0))) := ⟨hq BK225.out (.c NB225_230.out .n)⟩
                have n5_ : Aside0 (((w70.setCell ⟨gb230, 0, none⟩ (.int .i64 t227)).setCell ⟨gb230, 1, none⟩ (.int .i64 t228)).heap[gb230]? = some (.cells #[.int .i64 t227, .int .i64 t228] 31 (0, 0))) := ⟨by refine hp ?_; refine qdO (cs := #[.int .i64 t227, .int .i64 0]) ?_ 1 _ rfl; refine hp ?_; refine qdO (cs := #[.int .i64 0, .int .i64 0]) ?_ 0 _ rfl; exact h0 BK230.out⟩
                have n6_ : Aside0 (Below w.heap.size w ((w70.setCell ⟨gb230, 0, none⟩ (.int .i64 t227)).setCell ⟨gb230, 1, none⟩ (.int .i64 t228))) := ⟨bq HB.out (.c GE201.out (.c GE225.out (.c GE230.out .n)))⟩
                (try clear HO_5)
                (try clear HO_6)
                (try clear HO_9)
                (try clear BK201)
                (try clear BK225)
                (try clear BK230)
                (try clear HB)
                generalize ((w70.setCell ⟨gb230, 0, none⟩ (.int .i64 t227)).setCell ⟨gb230, 1, none⟩ (.int .i64 t228)) = w98 at n0_ n1_ n2_ n3_ n4_ n5_ n6_ ⊢
                have HO_5 := n0_
                have HO_6 := n1_
                have HO_9 := n2_
                have BK201 := n3_
                have BK225 := n4_
                have BK230 := n5_
                have HB := n6_
                clear n0_ n1_ n2_ n3_ n4_ n5_ n6_
                replace HO_5 := Aside0.mk (Kd.R_drew HO_5.out)
                replace HO_6 := Aside0.mk (Kd.R_drew HO_6.out)
                replace HO_9 := Aside0.mk (Kd.R_drew HO_9.out)
                replace BK201 := Aside0.mk (qbQ BK201.out)
                replace BK225 := Aside0.mk (qbQ BK225.out)
                replace BK230 := Aside0.mk (qbQ BK230.out)
                replace HB := Aside0.mk (qbH HB.out)
                have p231 : 0 ≤ (x16_3 : Int) := od
                have q231 : x16_3 < (t202.length : Int) := od
                obtain ⟨ad231, e231, hx231_0, hx231_1⟩ := qe8 (Kd.R_reads' HO_9.out).2.2 x16_3 p231 q231
                obtain rfl : ad221 = ad231 := (by injection e231)
                replace p231 := eq_true p231
                replace q231 := eq_true q231
                refine qd3 (n := 41) (S := fun w' => w'.cell? (ad221.add ((x16_3).toNat * 2)) = some (.int .i64 ((qaN t202 x16_3).f0)) ∧ w'.cell? ⟨(ad221.add ((x16_3).toNat * 2)).block, (ad221.add ((x16_3).toNat * 2)).off + 1, none⟩ = some (.int .i64 ((qaN t202 x16_3).f1))) (ds := []) #[false, false, false, false, false, false, false, false, false, false, false, false, false, false, false, false, false, false, false, false, false, false, false, false, false, false, false, false, false, false, false, false, false, false, false, false, false, false, false, false, false] (by kernel_rfl) rfl rfl ⟨hx231_0, hx231_1⟩ (fun hHeld => ?_); refine qdW qaA.tab28 qaA.bits28 (fun HT_ HW_ => ?_)
                generalize w98.drew = w99 at HO_5 HO_6 HO_9 BK201 BK225 BK230 HB hx231_0 hx231_1 hHeld ⊢
                refine pA 0 (some 131) HT_ ?_
                refine pA 1 (some 132) HT_ ?_
                refine pA 2 (some 133) HT_ ?_
                refine pA 3 (some 134) HT_ ?_
                refine pA 4 (some 135) HT_ ?_
                refine pA 5 (some 136) HT_ ?_
                refine pA 6 (some 137) HT_ ?_
                refine pA 7 (some 138) HT_ ?_
                refine pA 8 (some 139) HT_ ?_
                refine pA 9 (some 140) HT_ ?_
                refine tA 10 (some 141) HT_ HW_ hHeld ?_
                refine oA 11 (some 142) HT_ fun K hK => ?_
                refine gs Try.func15 #[.agg #[.int .i64 ((qaN t202 x16_3).f0), .int .i64 ((qaN t202 x16_3).f1)]] rfl ?_
                with_reducible refine (qbG.calls ((qaN t202 x16_3).f0) ((qaN t202 x16_3).f1) false _ A76.out).mono ?_
                rintro e w100 ⟨rfl, hb⟩
                have HS0_ := hcb hb hHeld.1
                have HS1_ := hcb hb hHeld.2
                refine ⟨_, rfl, ?_⟩
                replace HO_5 := Aside0.mk (Kd.R_below (rq HO_5.out) hb)
                replace HO_6 := Aside0.mk (Kd.R_below (rq HO_6.out) hb)
                replace HO_9 := Aside0.mk (Kd.R_below (rq HO_9.out) hb)
                replace BK201 := Aside0.mk (qaM (h0 BK201.out) hb)
                replace BK225 := Aside0.mk (qaM (h0 BK225.out) hb)
                replace BK230 := Aside0.mk (qaM (h0 BK230.out) hb)
                replace HB := Aside0.mk (qaC (bq HB.out (.c GE201.out (.c GE225.out (.c GE230.out .n)))) hb)
                (try clear hb)
                (try clear hb2)
                (try clear hk)
                (try clear hi)
                refine hK.out _ _ ⟨HS0_, HS1_⟩ (fun hHeld => ?_)
                clear hK K
                refine nA (some 142) ?_
                refine pA 12 (some 143) HT_ ?_
                refine pA 13 (some 144) HT_ ?_
                refine pA 14 (some 145) HT_ ?_
                refine pB 15 (some 146) HT_ ?_
                refine pB 16 (some 147) HT_ ?_
                refine pB 17 (some 148) HT_ ?_
                refine pB 18 (some 149) HT_ ?_
                refine pB 19 (some 150) HT_ ?_
                refine pB 20 (some 151) HT_ ?_
                refine pB 21 (some 152) HT_ ?_
                refine pA 22 (some 153) HT_ ?_
                refine pA 23 (some 154) HT_ ?_
                refine pB 24 (some 155) HT_ ?_
                refine pB 25 (some 156) HT_ ?_
                refine pB 26 (some 157) HT_ ?_
                refine pB 27 (some 158) HT_ ?_
                refine pB 28 (some 159) HT_ ?_
                refine pB 29 (some 160) HT_ ?_
                refine pB 30 (some 161) HT_ ?_
                refine pA 31 (some 162) HT_ ?_
                refine pA 32 (some 163) HT_ ?_
                refine pB 33 (some 164) HT_ ?_
                refine pB 34 (some 165) HT_ ?_
                refine pB 35 (some 166) HT_ ?_
                refine pB 36 (some 167) HT_ ?_
                refine pB 37 (some 168) HT_ ?_
                refine pB 38 (some 169) HT_ ?_
                refine pB 39 (some 170) HT_ ?_
                refine pA 40 (some 171) HT_ ?_
                refine qfD (qe3 HT_.out (by kernel_rfl)) ?_
                try go_wp2
                go_meet
                case rel => exact ⟨_, (true), er, H', ⟨by have := HJ8.out; have := HK2.out; have := HK3.out; first | omega | exact Nat.le_refl _⟩, ⟨rq HO_5.out⟩, ⟨rq HO_6.out⟩, ⟨rq HO_9.out⟩, ⟨h0 BK201.out⟩, ⟨h0 BK225.out⟩, ⟨h0 BK230.out⟩, ⟨bq HB.out (.c GE201.out (.c GE225.out (.c GE230.out .n)))⟩⟩
              ·as_aux_lemma =>
               rw [if_neg c75] at H
               have c75b0 : (t229 == 0) = false := beq_eq_false_iff_ne.mpr c75
               have c75b1 : (t229 != 0) = true := bne_iff_ne.mpr c75
               have H' := Aside0.mk H
               clear H
               try go_wp2
               have n0_ : Aside0 (Kd.R (Kd.int .i64) 2 ((w70.setCell ⟨gb230, 0, none⟩ (.int .i64 t227)).setCell ⟨gb230, 1, none⟩ (.int .i64 t228)) w.heap.size (fun _ => True) (.slice Ao11 t193.length co11) t193) := ⟨by (with_reducible repeat (first | apply Kd.R_alloc | apply Kd.R_drewN | apply Kd.R_drew)); exact Kd.R_mono (Kd.R_far (p := ⟨gb230, 1, none⟩) (Kd.R_far (p := ⟨gb230, 0, none⟩) (Kd.R_types HO_5.out BK230.out (by decide)) (fun _ hk => hk.2) (.int .i64 t227)) (fun _ hk => hk.2) (.int .i64 t228)) (fun _ hk => trivial)⟩
               have n1_ : Aside0 (Kd.R k31 31 ((w70.setCell ⟨gb230, 0, none⟩ (.int .i64 t227)).setCell ⟨gb230, 1, none⟩ (.int .i64 t228)) w.heap.size (fun k_ => some k_ ≠ (.slice (some ad221) t202.length co64 : Value).ownBlock ∧ k_ ≠ gb201 ∧ k_ ≠ gb225 ∧ k_ ≠ gb230) (.slice Ao15 t196.length co15) t196) := ⟨by (with_reducible repeat (first | apply Kd.R_alloc | apply Kd.R_drewN | apply Kd.R_drew)); exact Kd.R_mono (Kd.R_far (p := ⟨gb230, 1, none⟩) (Kd.R_far (p := ⟨gb230, 0, none⟩) (Kd.R_mono HO_6.out (fun k_ hk => (⟨hk, hk.2⟩ : _ ∧ k_ ≠ gb230))) (fun _ hk => hk.2) (.int .i64 t227)) (fun _ hk => hk.2) (.int .i64 t228)) (fun _ hk => ⟨hk.1.1.1.1, ⟨hk.1.1.1.2, ⟨hk.1.1.2, hk.1.2⟩⟩⟩)⟩
               have n2_ : Aside0 (Kd.R k31 31 ((w70.setCell ⟨gb230, 0, none⟩ (.int .i64 t227)).setCell ⟨gb230, 1, none⟩ (.int .i64 t228)) w.heap.size (fun k_ => some k_ ≠ (.slice Ao15 t196.length co15 : Value).ownBlock ∧ k_ ≠ gb201 ∧ k_ ≠ gb225 ∧ k_ ≠ gb230) (.slice (some ad221) t202.length co64) t202) := ⟨by (with_reducible repeat (first | apply Kd.R_alloc | apply Kd.R_drewN | apply Kd.R_drew)); exact Kd.R_mono (Kd.R_far (p := ⟨gb230, 1, none⟩) (Kd.R_far (p := ⟨gb230, 0, none⟩) (Kd.R_mono HO_9.out (fun k_ hk => (⟨hk, hk.2⟩ : _ ∧ k_ ≠ gb230))) (fun _ hk => hk.2) (.int .i64 t227)) (fun _ hk => hk.2) (.int .i64 t228)) (fun _ hk => ⟨hk.1.1.1.1, ⟨hk.1.1.1.2, ⟨hk.1.1.2, hk.1.2⟩⟩⟩)⟩
               have n3_ : Aside0 (((w70.setCell ⟨gb230, 0, none⟩ (.int .i64 t227)).setCell ⟨gb230, 1, none⟩ (.int .i64 t228)).heap[gb201]? = some (.cells #[.int .i64 (-23622320128), .int .i64 (wrap64 (21474836480 + t200))] 31 (0, 0))) := ⟨hq BK201.out (.c NB201_230.out .n)⟩
               have n4_ : Aside0 (((w70.setCell ⟨gb230, 0, none⟩ (.int .i64 t227)).setCell ⟨gb230, 1, none⟩ (.int .i64 t228)).heap[gb225]? = some (.cells #[.int .i64 t222, .int .i64 t223] 31 (0, 0))) := ⟨hq BK225.out (.c NB225_230.out .n)⟩
               have n5_ : Aside0 (((w70.setCell ⟨gb230, 0, none⟩ (.int .i64 t227)).setCell ⟨gb230, 1, none⟩ (.int .i64 t228)).heap[gb230]? = some (.cells #[.int .i64 t227, .int .i64 t228] 31 (0, 0))) := ⟨by refine hp ?_; refine qdO (cs := #[.int .i64 t227, .int .i64 0]) ?_ 1 _ rfl; refine hp ?_; refine qdO (cs := #[.int .i64 0, .int .i64 0]) ?_ 0 _ rfl; exact h0 BK230.out⟩
               have n6_ : Aside0 (Below w.heap.size w ((w70.setCell ⟨gb230, 0, none⟩ (.int .i64 t227)).setCell ⟨gb230, 1, none⟩ (.int .i64 t228))) := ⟨bq HB.out (.c GE201.out (.c GE225.out (.c GE230.out .n)))⟩
               (try clear HO_5)
               (try clear HO_6)
               (try clear HO_9)
               (try clear BK201)
               (try clear BK225)
               (try clear BK230)
               (try clear HB)
               generalize ((w70.setCell ⟨gb230, 0, none⟩ (.int .i64 t227)).setCell ⟨gb230, 1, none⟩ (.int .i64 t228)) = w101 at n0_ n1_ n2_ n3_ n4_ n5_ n6_ ⊢
               have HO_5 := n0_
               have HO_6 := n1_
               have HO_9 := n2_
               have BK201 := n3_
               have BK225 := n4_
               have BK230 := n5_
               have HB := n6_
               clear n0_ n1_ n2_ n3_ n4_ n5_ n6_
               replace HO_5 := Aside0.mk (Kd.R_drew HO_5.out)
               replace HO_6 := Aside0.mk (Kd.R_drew HO_6.out)
               replace HO_9 := Aside0.mk (Kd.R_drew HO_9.out)
               replace BK201 := Aside0.mk (qbQ BK201.out)
               replace BK225 := Aside0.mk (qbQ BK225.out)
               replace BK230 := Aside0.mk (qbQ BK230.out)
               replace HB := Aside0.mk (qbH HB.out)
               refine qd3 (n := 41) (S := fun w' => True) (ds := []) #[false, false, false, false, false, false, false, false, false, false, false, false, false, false, false, false, false, false, false, false, false, false, false, false, false, false, false, false, false, false, false, false, false, false, false, false, false, false, false, false, false] (by kernel_rfl) rfl rfl trivial (fun hHeld => ?_); refine qdW qaA.tab28 qaA.bits28 (fun HT_ HW_ => ?_)
               generalize w101.drew = w102 at HO_5 HO_6 HO_9 BK201 BK225 BK230 HB hHeld ⊢
               refine pA 0 (some 131) HT_ ?_
               refine pA 1 (some 132) HT_ ?_
               refine pA 2 (some 133) HT_ ?_
               refine pA 3 (some 134) HT_ ?_
               refine pA 4 (some 135) HT_ ?_
               refine pA 5 (some 136) HT_ ?_
               refine pA 6 (some 137) HT_ ?_
               refine pB 7 (some 138) HT_ ?_
               refine pB 8 (some 139) HT_ ?_
               refine pB 9 (some 140) HT_ ?_
               refine pB 10 (some 141) HT_ ?_
               refine pB 11 (some 142) HT_ ?_
               refine pB 12 (some 143) HT_ ?_
               refine pA 13 (some 144) HT_ ?_
               refine pA 14 (some 145) HT_ ?_
               refine pB 15 (some 146) HT_ ?_
               refine pB 16 (some 147) HT_ ?_
               refine pB 17 (some 148) HT_ ?_
               refine pB 18 (some 149) HT_ ?_
               refine pB 19 (some 150) HT_ ?_
               refine pB 20 (some 151) HT_ ?_
               refine pB 21 (some 152) HT_ ?_
               refine pA 22 (some 153) HT_ ?_
               refine pA 23 (some 154) HT_ ?_
               refine pB 24 (some 155) HT_ ?_
               refine pB 25 (some 156) HT_ ?_
               refine pB 26 (some 157) HT_ ?_
               refine pB 27 (some 158) HT_ ?_
               refine pB 28 (some 159) HT_ ?_
               refine pB 29 (some 160) HT_ ?_
               refine pB 30 (some 161) HT_ ?_
               refine pA 31 (some 162) HT_ ?_
               refine pA 32 (some 163) HT_ ?_
               refine pB 33 (some 164) HT_ ?_
               refine pB 34 (some 165) HT_ ?_
               refine pB 35 (some 166) HT_ ?_
               refine pB 36 (some 167) HT_ ?_
               refine pB 37 (some 168) HT_ ?_
               refine pB 38 (some 169) HT_ ?_
               refine pB 39 (some 170) HT_ ?_
               refine pA 40 (some 171) HT_ ?_
               refine qfD (qe3 HT_.out (by kernel_rfl)) ?_
               try go_wp2
               go_meet
               case rel => exact ⟨_, (true), er, H', ⟨by have := HJ8.out; have := HK2.out; have := HK3.out; first | omega | exact Nat.le_refl _⟩, ⟨rq HO_5.out⟩, ⟨rq HO_6.out⟩, ⟨rq HO_9.out⟩, ⟨h0 BK201.out⟩, ⟨h0 BK225.out⟩, ⟨h0 BK230.out⟩, ⟨bq HB.out (.c GE201.out (.c GE225.out (.c GE230.out .n)))⟩⟩
             ·as_aux_lemma =>
              rw [if_neg c74] at H
              have c74b0 : (t224 == 0) = false := beq_eq_false_iff_ne.mpr c74
              have c74b1 : (t224 != 0) = true := bne_iff_ne.mpr c74
              (first | rw [c74b0] | (simp only [i64_w, i32_w]; rw [c74b0]) | skip)
              have H' := Aside0.mk H
              clear H
              try go_wp2
              have n0_ : Aside0 (Kd.R (Kd.int .i64) 2 ((w70.setCell ⟨gb230, 0, none⟩ (.int .i64 t227)).setCell ⟨gb230, 1, none⟩ (.int .i64 t228)) w.heap.size (fun _ => True) (.slice Ao11 t193.length co11) t193) := ⟨by (with_reducible repeat (first | apply Kd.R_alloc | apply Kd.R_drewN | apply Kd.R_drew)); exact Kd.R_mono (Kd.R_far (p := ⟨gb230, 1, none⟩) (Kd.R_far (p := ⟨gb230, 0, none⟩) (Kd.R_types HO_5.out BK230.out (by decide)) (fun _ hk => hk.2) (.int .i64 t227)) (fun _ hk => hk.2) (.int .i64 t228)) (fun _ hk => trivial)⟩
              have n1_ : Aside0 (Kd.R k31 31 ((w70.setCell ⟨gb230, 0, none⟩ (.int .i64 t227)).setCell ⟨gb230, 1, none⟩ (.int .i64 t228)) w.heap.size (fun k_ => some k_ ≠ (.slice (some ad221) t202.length co64 : Value).ownBlock ∧ k_ ≠ gb201 ∧ k_ ≠ gb225 ∧ k_ ≠ gb230) (.slice Ao15 t196.length co15) t196) := ⟨by (with_reducible repeat (first | apply Kd.R_alloc | apply Kd.R_drewN | apply Kd.R_drew)); exact Kd.R_mono (Kd.R_far (p := ⟨gb230, 1, none⟩) (Kd.R_far (p := ⟨gb230, 0, none⟩) (Kd.R_mono HO_6.out (fun k_ hk => (⟨hk, hk.2⟩ : _ ∧ k_ ≠ gb230))) (fun _ hk => hk.2) (.int .i64 t227)) (fun _ hk => hk.2) (.int .i64 t228)) (fun _ hk => ⟨hk.1.1.1.1, ⟨hk.1.1.1.2, ⟨hk.1.1.2, hk.1.2⟩⟩⟩)⟩
              have n2_ : Aside0 (Kd.R k31 31 ((w70.setCell ⟨gb230, 0, none⟩ (.int .i64 t227)).setCell ⟨gb230, 1, none⟩ (.int .i64 t228)) w.heap.size (fun k_ => some k_ ≠ (.slice Ao15 t196.length co15 : Value).ownBlock ∧ k_ ≠ gb201 ∧ k_ ≠ gb225 ∧ k_ ≠ gb230) (.slice (some ad221) t202.length co64) t202) := ⟨by (with_reducible repeat (first | apply Kd.R_alloc | apply Kd.R_drewN | apply Kd.R_drew)); exact Kd.R_mono (Kd.R_far (p := ⟨gb230, 1, none⟩) (Kd.R_far (p := ⟨gb230, 0, none⟩) (Kd.R_mono HO_9.out (fun k_ hk => (⟨hk, hk.2⟩ : _ ∧ k_ ≠ gb230))) (fun _ hk => hk.2) (.int .i64 t227)) (fun _ hk => hk.2) (.int .i64 t228)) (fun _ hk => ⟨hk.1.1.1.1, ⟨hk.1.1.1.2, ⟨hk.1.1.2, hk.1.2⟩⟩⟩)⟩
              have n3_ : Aside0 (((w70.setCell ⟨gb230, 0, none⟩ (.int .i64 t227)).setCell ⟨gb230, 1, none⟩ (.int .i64 t228)).heap[gb201]? = some (.cells #[.int .i64 (-23622320128), .int .i64 (wrap64 (21474836480 + t200))] 31 (0, 0))) := ⟨hq BK201.out (.c NB201_230.out .n)⟩
              have n4_ : Aside0 (((w70.setCell ⟨gb230, 0, none⟩ (.int .i64 t227)).setCell ⟨gb230, 1, none⟩ (.int .i64 t228)).heap[gb225]? = some (.cells #[.int .i64 t222, .int .i64 t223] 31 (0, 0))) := ⟨hq BK225.out (.c NB225_230.out .n)⟩
              have n5_ : Aside0 (((w70.setCell ⟨gb230, 0, none⟩ (.int .i64 t227)).setCell ⟨gb230, 1, none⟩ (.int .i64 t228)).heap[gb230]? = some (.cells #[.int .i64 t227, .int .i64 t228] 31 (0, 0))) := ⟨by refine hp ?_; refine qdO (cs := #[.int .i64 t227, .int .i64 0]) ?_ 1 _ rfl; refine hp ?_; refine qdO (cs := #[.int .i64 0, .int .i64 0]) ?_ 0 _ rfl; exact h0 BK230.out⟩
              have n6_ : Aside0 (Below w.heap.size w ((w70.setCell ⟨gb230, 0, none⟩ (.int .i64 t227)).setCell ⟨gb230, 1, none⟩ (.int .i64 t228))) := ⟨bq HB.out (.c GE201.out (.c GE225.out (.c GE230.out .n)))⟩
              (try clear HO_5)
              (try clear HO_6)
              (try clear HO_9)
              (try clear BK201)
              (try clear BK225)
              (try clear BK230)
              (try clear HB)
              generalize ((w70.setCell ⟨gb230, 0, none⟩ (.int .i64 t227)).setCell ⟨gb230, 1, none⟩ (.int .i64 t228)) = w103 at n0_ n1_ n2_ n3_ n4_ n5_ n6_ ⊢
              have HO_5 := n0_
              have HO_6 := n1_
              have HO_9 := n2_
              have BK201 := n3_
              have BK225 := n4_
              have BK230 := n5_
              have HB := n6_
              clear n0_ n1_ n2_ n3_ n4_ n5_ n6_
              replace HO_5 := Aside0.mk (Kd.R_drew HO_5.out)
              replace HO_6 := Aside0.mk (Kd.R_drew HO_6.out)
              replace HO_9 := Aside0.mk (Kd.R_drew HO_9.out)
              replace BK201 := Aside0.mk (qbQ BK201.out)
              replace BK225 := Aside0.mk (qbQ BK225.out)
              replace BK230 := Aside0.mk (qbQ BK230.out)
              replace HB := Aside0.mk (qbH HB.out)
              refine qd3 (n := 41) (S := fun w' => True) (ds := []) #[false, false, false, false, false, false, false, false, false, false, false, false, false, false, false, false, false, false, false, false, false, false, false, false, false, false, false, false, false, false, false, false, false, false, false, false, false, false, false, false, false] (by kernel_rfl) rfl rfl trivial (fun hHeld => ?_); refine qdW qaA.tab28 qaA.bits28 (fun HT_ HW_ => ?_)
              generalize w103.drew = w104 at HO_5 HO_6 HO_9 BK201 BK225 BK230 HB hHeld ⊢
              refine pA 0 (some 131) HT_ ?_
              refine pA 1 (some 132) HT_ ?_
              refine pA 2 (some 133) HT_ ?_
              refine pB 3 (some 134) HT_ ?_
              refine pB 4 (some 135) HT_ ?_
              refine pA 5 (some 136) HT_ ?_
              refine pA 6 (some 137) HT_ ?_
              refine pB 7 (some 138) HT_ ?_
              refine pB 8 (some 139) HT_ ?_
              refine pB 9 (some 140) HT_ ?_
              refine pB 10 (some 141) HT_ ?_
              refine pB 11 (some 142) HT_ ?_
              refine pB 12 (some 143) HT_ ?_
              refine pA 13 (some 144) HT_ ?_
              refine pA 14 (some 145) HT_ ?_
              refine pB 15 (some 146) HT_ ?_
              refine pB 16 (some 147) HT_ ?_
              refine pB 17 (some 148) HT_ ?_
              refine pB 18 (some 149) HT_ ?_
              refine pB 19 (some 150) HT_ ?_
              refine pB 20 (some 151) HT_ ?_
              refine pB 21 (some 152) HT_ ?_
              refine pA 22 (some 153) HT_ ?_
              refine pA 23 (some 154) HT_ ?_
              refine pB 24 (some 155) HT_ ?_
              refine pB 25 (some 156) HT_ ?_
              refine pB 26 (some 157) HT_ ?_
              refine pB 27 (some 158) HT_ ?_
              refine pB 28 (some 159) HT_ ?_
              refine pB 29 (some 160) HT_ ?_
              refine pB 30 (some 161) HT_ ?_
              refine pA 31 (some 162) HT_ ?_
              refine pA 32 (some 163) HT_ ?_
              refine pB 33 (some 164) HT_ ?_
              refine pB 34 (some 165) HT_ ?_
              refine pB 35 (some 166) HT_ ?_
              refine pB 36 (some 167) HT_ ?_
              refine pB 37 (some 168) HT_ ?_
              refine pB 38 (some 169) HT_ ?_
              refine pB 39 (some 170) HT_ ?_
              refine pA 40 (some 171) HT_ ?_
              refine qfD (qe3 HT_.out (by kernel_rfl)) ?_
              try go_wp2
              go_meet
              case rel => exact ⟨_, (true), er, H', ⟨by have := HJ8.out; have := HK2.out; have := HK3.out; first | omega | exact Nat.le_refl _⟩, ⟨rq HO_5.out⟩, ⟨rq HO_6.out⟩, ⟨rq HO_9.out⟩, ⟨h0 BK201.out⟩, ⟨h0 BK225.out⟩, ⟨h0 BK230.out⟩, ⟨bq HB.out (.c GE201.out (.c GE225.out (.c GE230.out .n)))⟩⟩
            case rest =>
             clear HC63
             try clear p2
             try clear p6
             try clear c7
             try clear p64
             try clear c74
             try clear c74b0
             try clear c74b1
             try clear c75
             try clear c75b0
             try clear c75b1
             obtain ⟨kq, x171_62, rfl, HA, HJ62, HO_5, HO_6, HO_9, BK201, BK225, BK230, HB⟩ := hcut
             cases kq with
             | zero => exact absurd HA.out (by simp [qaA.j5])
             | succ kj62 =>
              have H := HA.out
              clear HA
              simp only [qaA.j5] at H
              by_cases c105 : x171_62 = true
              ·subst c105
               have H1 : (some false) = some r := by rw [if_pos rfl] at H; exact H
               clear H
               have H := H1
               clear H1
               obtain rfl := Option.some.inj H
               go_wp2
               go_ret
               exact ⟨by first | rfl | (simp [qbA, qa9] <;> rfl) | (simp [*, qbA, qa9] <;> rfl), bq HB.out (.c GE201.out (.c GE225.out (.c GE230.out .n)))⟩
              ·as_aux_lemma =>
               replace c105 := Bool.eq_false_iff.mpr c105
               subst c105
               have H1 : (qaA.l4 kj62 t193 t196 t202 x16_3 0 0 t222 t223 t227 t228) = some r := by rw [if_neg (show ¬ (false = true) by decide)] at H; exact H
               clear H
               have H := H1
               clear H1
               have H' := Aside0.mk H
               clear H
               go_wp2
               go_loopg [21, 22] kj62 (fun kq v21 v22 w' => ∃ (x21_5 : Int) (x22_5 : Int), v21 = .int .i64 x21_5 ∧ v22 = .int .i64 x22_5 ∧ Aside0 (qaA.l4 kq t193 t196 t202 x16_3 x21_5 x22_5 t222 t223 t227 t228 = some r) ∧ Aside0 (kq ≤ kj62) ∧ Aside0 (Kd.R (Kd.int .i64) 2 w' w.heap.size (fun _ => True) (.slice Ao11 t193.length co11) t193) ∧ Aside0 (Kd.R k31 31 w' w.heap.size (fun k_ => some k_ ≠ ((.slice (some ad221) t202.length co64) : Value).ownBlock ∧ k_ ≠ gb201 ∧ k_ ≠ gb225 ∧ k_ ≠ gb230) (.slice Ao15 t196.length co15) t196) ∧ Aside0 (Kd.R k31 31 w' w.heap.size (fun k_ => some k_ ≠ ((.slice Ao15 t196.length co15) : Value).ownBlock ∧ k_ ≠ gb201 ∧ k_ ≠ gb225 ∧ k_ ≠ gb230) (.slice (some ad221) t202.length co64) t202) ∧ Aside0 (w'.heap[gb201]? = some (.cells #[.int .i64 (-23622320128), .int .i64 (wrap64 (21474836480 + t200))] 31 (0, 0))) ∧ Aside0 (w'.heap[gb225]? = some (.cells #[.int .i64 t222, .int .i64 t223] 31 (0, 0))) ∧ Aside0 (w'.heap[gb230]? = some (.cells #[.int .i64 t227, .int .i64 t228] 31 (0, 0))) ∧ Aside0 (Below w.heap.size w w'))
               case atStart => exact ⟨(0), (0), er, er, H', ⟨Nat.le_refl _⟩, ⟨rq HO_5.out⟩, ⟨rq HO_6.out⟩, ⟨rq HO_9.out⟩, ⟨h0 BK201.out⟩, ⟨h0 BK225.out⟩, ⟨h0 BK230.out⟩, ⟨bq HB.out (.c GE201.out (.c GE225.out (.c GE230.out .n)))⟩⟩
               case round =>
                clear H'
                try clear c1
                try clear p2
                try clear p6
                try clear c7
                try clear c10
                try clear p64
                try clear c74
                try clear c74b0
                try clear c74b1
                try clear c75
                try clear c75b0
                try clear c75b1
                try clear c105
                try clear p2
                try clear p6
                try clear p64
                obtain ⟨x21_5, x22_5, rfl, rfl, HA, HK5, HO_5, HO_6, HO_9, BK201, BK225, BK230, HB⟩ := hrel
                cases gk with
                | zero => exact absurd HA.out (by simp [qaA.l4])
                | succ k5 =>
                 have H := HA.out
                 clear HA
                 simp only [qaA.l4] at H
                 by_cases c106 : x22_5 < (t193.length : Int)
                 ·as_aux_lemma =>
                  rw [if_pos c106] at H
                  have c106b0 : decide (x22_5 < (t193.length : Int)) = true := decide_eq_true c106
                  clear c106
                  by_cases c107 : 0 ≤ x16_3
                  ·as_aux_lemma =>
                   rw [if_pos c107] at H
                   have c107b0 : decide (0 ≤ x16_3) = true := decide_eq_true c107
                   clear c107
                   by_cases c108 : x16_3 < (t202.length : Int)
                   ·as_aux_lemma =>
                    rw [if_pos c108] at H
                    have c108b0 : decide (x16_3 < (t202.length : Int)) = true := decide_eq_true c108
                    clear c108
                    by_cases c109 : 0 ≤ x22_5
                    ·as_aux_lemma =>
                     rw [if_pos c109] at H
                     have c109b0 : decide (0 ≤ x22_5) = true := decide_eq_true c109
                     clear c109
                     replace H := Option.bind_eq_some_iff.mp H
                     obtain ⟨t241, A1100, H⟩ := H
                     replace H : (if t241 = true then ((qbN.f t222 t223 (wrap64 ((rd t193 x22_5) * 4294967296))).bind fun t243 => (if t243 = true then ((qbN.f t227 t228 (wrap64 ((rd t193 x22_5) * 4294967296))).bind fun t245 => (if t245 = true then (qaA.l4 k5 t193 t196 t202 x16_3 (wrap64 (x21_5 + 1)) (wrap64 (x22_5 + 1)) t222 t223 t227 t228) else (some false))) else (some false))) else (qaA.l4 k5 t193 t196 t202 x16_3 x21_5 (wrap64 (x22_5 + 1)) t222 t223 t227 t228)) = some r := H
                     have A110 := Aside0.mk A1100
                     clear A1100
                     by_cases c111 : t241 = true
                     ·as_aux_lemma =>
                      subst c111
                      have H1 : ((qbN.f t222 t223 (wrap64 ((rd t193 x22_5) * 4294967296))).bind fun t243 => (if t243 = true then ((qbN.f t227 t228 (wrap64 ((rd t193 x22_5) * 4294967296))).bind fun t245 => (if t245 = true then (qaA.l4 k5 t193 t196 t202 x16_3 (wrap64 (x21_5 + 1)) (wrap64 (x22_5 + 1)) t222 t223 t227 t228) else (some false))) else (some false))) = some r := by rw [if_pos rfl] at H; exact H
                      clear H
                      have H := H1
                      clear H1
                      replace H := Option.bind_eq_some_iff.mp H
                      obtain ⟨t243, A1120, H⟩ := H
                      replace H : (if t243 = true then ((qbN.f t227 t228 (wrap64 ((rd t193 x22_5) * 4294967296))).bind fun t245 => (if t245 = true then (qaA.l4 k5 t193 t196 t202 x16_3 (wrap64 (x21_5 + 1)) (wrap64 (x22_5 + 1)) t222 t223 t227 t228) else (some false))) else (some false)) = some r := H
                      have A112 := Aside0.mk A1120
                      clear A1120
                      by_cases c113 : t243 = true
                      ·as_aux_lemma =>
                       subst c113
                       have H1 : ((qbN.f t227 t228 (wrap64 ((rd t193 x22_5) * 4294967296))).bind fun t245 => (if t245 = true then (qaA.l4 k5 t193 t196 t202 x16_3 (wrap64 (x21_5 + 1)) (wrap64 (x22_5 + 1)) t222 t223 t227 t228) else (some false))) = some r := by rw [if_pos rfl] at H; exact H
                       clear H
                       have H := H1
                       clear H1
                       replace H := Option.bind_eq_some_iff.mp H
                       obtain ⟨t245, A1140, H⟩ := H
                       replace H : (if t245 = true then (qaA.l4 k5 t193 t196 t202 x16_3 (wrap64 (x21_5 + 1)) (wrap64 (x22_5 + 1)) t222 t223 t227 t228) else (some false)) = some r := H
                       have A114 := Aside0.mk A1140
                       clear A1140
                       by_cases c115 : t245 = true
                       ·as_aux_lemma =>
                        subst c115
                        have H1 : (qaA.l4 k5 t193 t196 t202 x16_3 (wrap64 (x21_5 + 1)) (wrap64 (x22_5 + 1)) t222 t223 t227 t228) = some r := by rw [if_pos rfl] at H; exact H
                        clear H
                        have H := H1
                        clear H1
                        have H' := Aside0.mk H
                        clear H
                        try go_wp2
                        replace HO_5 := Aside0.mk (Kd.R_drew HO_5.out)
                        replace HO_6 := Aside0.mk (Kd.R_drew HO_6.out)
                        replace HO_9 := Aside0.mk (Kd.R_drew HO_9.out)
                        replace BK201 := Aside0.mk (qbQ BK201.out)
                        replace BK225 := Aside0.mk (qbQ BK225.out)
                        replace BK230 := Aside0.mk (qbQ BK230.out)
                        replace HB := Aside0.mk (qbH HB.out)
                        have p239 : 0 ≤ (x16_3 : Int) := od
                        have q239 : x16_3 < (t202.length : Int) := od
                        obtain ⟨ad239, e239, hx239_0, hx239_1⟩ := qe8 (Kd.R_reads' HO_9.out).2.2 x16_3 p239 q239
                        obtain rfl : ad221 = ad239 := (by injection e239)
                        replace p239 := eq_true p239
                        replace q239 := eq_true q239
                        have p240 : 0 ≤ (x22_5 : Int) := od
                        have q240 : x22_5 < (t193.length : Int) := od
                        obtain ⟨ad240, e240, hx240_0⟩ := Kd.at_int (Kd.R_reads' HO_5.out).2.2 x22_5 p240 q240
                        cases e240
                        replace p240 := eq_true p240
                        replace q240 := eq_true q240
                        refine qd3 (n := 11) (S := fun w' => w'.cell? (ad221.add ((x16_3).toNat * 2)) = some (.int .i64 ((qaN t202 x16_3).f0)) ∧ w'.cell? ⟨(ad221.add ((x16_3).toNat * 2)).block, (ad221.add ((x16_3).toNat * 2)).off + 1, none⟩ = some (.int .i64 ((qaN t202 x16_3).f1)) ∧ w'.cell? (ad240.add (x22_5).toNat) = some (.int .i64 (rd t193 x22_5))) (ds := []) #[false, false, false, false, false, false, false, false, false, false, false] (by kernel_rfl) rfl rfl ⟨hx239_0, hx239_1, hx240_0⟩ (fun hHeld => ?_); refine qdW qaA.tab34 qaA.bits34 (fun HT_ HW_ => ?_)
                        generalize wr.drew = w116 at HO_5 HO_6 HO_9 BK201 BK225 BK230 HB hx239_0 hx239_1 hx240_0 hHeld ⊢
                        refine pA 0 (some 178) HT_ ?_
                        refine pA 1 (some 179) HT_ ?_
                        refine pA 2 (some 180) HT_ ?_
                        refine pA 4 (some 182) HT_ ?_
                        refine pA 5 (some 183) HT_ ?_
                        refine pA 6 (some 184) HT_ ?_
                        refine tA 3 (some 181) HT_ HW_ hHeld ?_
                        refine tA 7 (some 185) HT_ HW_ hHeld ?_
                        refine pA 8 (some 186) HT_ ?_
                        refine oA 9 (some 187) HT_ fun K hK => ?_
                        refine gs Try.func10 #[.agg #[.int .i64 ((qaN t202 x16_3).f0), .int .i64 ((qaN t202 x16_3).f1)], .int .i64 (wrap64 ((rd t193 x22_5) * 4294967296))] rfl ?_
                        with_reducible refine (qbN.calls ((qaN t202 x16_3).f0) ((qaN t202 x16_3).f1) (wrap64 ((rd t193 x22_5) * 4294967296)) true _ A110.out).mono ?_
                        rintro e w117 ⟨rfl, hb⟩
                        have HS0_ := hcb hb hHeld.1
                        have HS1_ := hcb hb hHeld.2.1
                        have HS2_ := hcb hb hHeld.2.2
                        refine ⟨_, rfl, ?_⟩
                        replace HO_5 := Aside0.mk (Kd.R_below (rq HO_5.out) hb)
                        replace HO_6 := Aside0.mk (Kd.R_below (rq HO_6.out) hb)
                        replace HO_9 := Aside0.mk (Kd.R_below (rq HO_9.out) hb)
                        replace BK201 := Aside0.mk (qaM (h0 BK201.out) hb)
                        replace BK225 := Aside0.mk (qaM (h0 BK225.out) hb)
                        replace BK230 := Aside0.mk (qaM (h0 BK230.out) hb)
                        replace HB := Aside0.mk (qaC (bq HB.out (.c GE201.out (.c GE225.out (.c GE230.out .n)))) hb)
                        (try clear hb)
                        (try clear hb2)
                        (try clear hk)
                        (try clear hi)
                        refine hK.out _ _ ⟨HS0_, HS1_, HS2_⟩ (fun hHeld => ?_)
                        clear hK K
                        refine nA (some 187) ?_
                        refine pA 10 (some 188) HT_ ?_
                        refine qfD (qe3 HT_.out (by kernel_rfl)) ?_
                        try go_wp2
                        replace HO_5 := Aside0.mk (Kd.R_drew HO_5.out)
                        replace HO_6 := Aside0.mk (Kd.R_drew HO_6.out)
                        replace HO_9 := Aside0.mk (Kd.R_drew HO_9.out)
                        replace BK201 := Aside0.mk (qbQ BK201.out)
                        replace BK225 := Aside0.mk (qbQ BK225.out)
                        replace BK230 := Aside0.mk (qbQ BK230.out)
                        replace HB := Aside0.mk (qbH HB.out)
                        have p242 : 0 ≤ (x22_5 : Int) := od
                        have q242 : x22_5 < (t193.length : Int) := od
                        obtain ⟨ad242, e242, hx242_0⟩ := Kd.at_int (Kd.R_reads' HO_5.out).2.2 x22_5 p242 q242
                        obtain rfl : ad240 = ad242 := (by injection e242)
                        replace p242 := eq_true p242
                        replace q242 := eq_true q242
                        have p244 : 0 ≤ (x22_5 : Int) := od
                        have q244 : x22_5 < (t193.length : Int) := od
                        obtain ⟨ad244, e244, hx244_0⟩ := Kd.at_int (Kd.R_reads' HO_5.out).2.2 x22_5 p244 q244
                        obtain rfl : ad240 = ad244 := (by injection e244)
                        replace p244 := eq_true p244
                        replace q244 := eq_true q244
                        refine qd3 (n := 18) (S := fun w' => w'.cell? ⟨gb225, 0, none⟩ = some (.int .i64 t222) ∧ w'.cell? ⟨gb225, 1, none⟩ = some (.int .i64 t223) ∧ w'.cell? ⟨gb230, 0, none⟩ = some (.int .i64 t227) ∧ w'.cell? ⟨gb230, 1, none⟩ = some (.int .i64 t228) ∧ w'.cell? (ad240.add (x22_5).toNat) = some (.int .i64 (rd t193 x22_5)) ∧ w'.cell? (ad240.add (x22_5).toNat) = some (.int .i64 (rd t193 x22_5))) (ds := []) #[false, false, false, false, false, false, false, false, false, false, false, false, false, false, false, false, false, false] (by kernel_rfl) rfl rfl ⟨(qaD BK225.out 0).trans rfl, (qaD BK225.out 1).trans rfl, (qaD BK230.out 0).trans rfl, (qaD BK230.out 1).trans rfl, hx242_0, hx244_0⟩ (fun hHeld => ?_); refine qdW qaA.tab36 qaA.bits36 (fun HT_ HW_ => ?_)
                        generalize w117.drew = w118 at HO_5 HO_6 HO_9 BK201 BK225 BK230 HB hx242_0 hx244_0 hHeld ⊢
                        refine pA 1 (some 192) HT_ ?_
                        refine pA 2 (some 193) HT_ ?_
                        refine pA 3 (some 194) HT_ ?_
                        refine tA 0 (some 191) HT_ HW_ hHeld ?_
                        refine tA 4 (some 195) HT_ HW_ hHeld ?_
                        refine pA 5 (some 196) HT_ ?_
                        refine oA 6 (some 197) HT_ fun K hK => ?_
                        refine gs Try.func10 #[.agg #[.int .i64 t222, .int .i64 t223], .int .i64 (wrap64 ((rd t193 x22_5) * 4294967296))] rfl ?_
                        with_reducible refine (qbN.calls t222 t223 (wrap64 ((rd t193 x22_5) * 4294967296)) true _ A112.out).mono ?_
                        rintro e w119 ⟨rfl, hb⟩
                        have HS4_ := hcb hb hHeld.2.2.2.2.1
                        have HS5_ := hcb hb hHeld.2.2.2.2.2
                        refine ⟨_, rfl, ?_⟩
                        replace HO_5 := Aside0.mk (Kd.R_below (rq HO_5.out) hb)
                        replace HO_6 := Aside0.mk (Kd.R_below (rq HO_6.out) hb)
                        replace HO_9 := Aside0.mk (Kd.R_below (rq HO_9.out) hb)
                        replace BK201 := Aside0.mk (qaM (h0 BK201.out) hb)
                        replace BK225 := Aside0.mk (qaM (h0 BK225.out) hb)
                        replace BK230 := Aside0.mk (qaM (h0 BK230.out) hb)
                        replace HB := Aside0.mk (qaC (bq HB.out (.c GE201.out (.c GE225.out (.c GE230.out .n)))) hb)
                        (try clear hb)
                        (try clear hb2)
                        (try clear hk)
                        (try clear hi)
                        refine hK.out _ _ ⟨(qaD BK225.out 0).trans rfl, (qaD BK225.out 1).trans rfl, (qaD BK230.out 0).trans rfl, (qaD BK230.out 1).trans rfl, HS4_, HS5_⟩ (fun hHeld => ?_)
                        clear hK K
                        refine nA (some 197) ?_
                        refine pA 7 (some 198) HT_ ?_
                        refine pA 8 (some 199) HT_ ?_
                        refine pA 10 (some 201) HT_ ?_
                        refine pA 11 (some 202) HT_ ?_
                        refine pA 12 (some 203) HT_ ?_
                        refine tA 9 (some 200) HT_ HW_ hHeld ?_
                        refine tA 13 (some 204) HT_ HW_ hHeld ?_
                        refine pA 14 (some 205) HT_ ?_
                        refine oA 15 (some 206) HT_ fun K hK => ?_
                        refine gs Try.func10 #[.agg #[.int .i64 t227, .int .i64 t228], .int .i64 (wrap64 ((rd t193 x22_5) * 4294967296))] rfl ?_
                        with_reducible refine (qbN.calls t227 t228 (wrap64 ((rd t193 x22_5) * 4294967296)) true _ A114.out).mono ?_
                        rintro e w120 ⟨rfl, hb⟩
                        have HS4_ := hcb hb hHeld.2.2.2.2.1
                        have HS5_ := hcb hb hHeld.2.2.2.2.2
                        refine ⟨_, rfl, ?_⟩
                        replace HO_5 := Aside0.mk (Kd.R_below (rq HO_5.out) hb)
                        replace HO_6 := Aside0.mk (Kd.R_below (rq HO_6.out) hb)
                        replace HO_9 := Aside0.mk (Kd.R_below (rq HO_9.out) hb)
                        replace BK201 := Aside0.mk (qaM (h0 BK201.out) hb)
                        replace BK225 := Aside0.mk (qaM (h0 BK225.out) hb)
                        replace BK230 := Aside0.mk (qaM (h0 BK230.out) hb)
                        replace HB := Aside0.mk (qaC (bq HB.out (.c GE201.out (.c GE225.out (.c GE230.out .n)))) hb)
                        (try clear hb)
                        (try clear hb2)
                        (try clear hk)
                        (try clear hi)
                        refine hK.out _ _ ⟨(qaD BK225.out 0).trans rfl, (qaD BK225.out 1).trans rfl, (qaD BK230.out 0).trans rfl, (qaD BK230.out 1).trans rfl, HS4_, HS5_⟩ (fun hHeld => ?_)
                        clear hK K
                        refine nA (some 206) ?_
                        refine pA 16 (some 207) HT_ ?_
                        refine pA 17 (some 208) HT_ ?_
                        refine qfD (qe3 HT_.out (by kernel_rfl)) ?_
                        try go_wp2
                        go_roundg k5
                        case measure => have := HJ8.out; have := HK2.out; have := HK3.out; have := HJ62.out; have := HK5.out; omega
                        case rel => exact ⟨(wrap64 (x21_5 + 1)), (wrap64 (x22_5 + 1)), er, er, H', ⟨by have := HJ8.out; have := HK2.out; have := HK3.out; have := HJ62.out; have := HK5.out; omega⟩, ⟨rq HO_5.out⟩, ⟨rq HO_6.out⟩, ⟨rq HO_9.out⟩, ⟨h0 BK201.out⟩, ⟨h0 BK225.out⟩, ⟨h0 BK230.out⟩, ⟨bq HB.out (.c GE201.out (.c GE225.out (.c GE230.out .n)))⟩⟩
                       ·as_aux_lemma =>
                        replace c115 := Bool.eq_false_iff.mpr c115
                        subst c115
                        have H1 : (some false) = some r := by rw [if_neg (show ¬ (false = true) by decide)] at H; exact H
                        clear H
                        have H := H1
                        clear H1
                        obtain rfl := Option.some.inj H
                        try go_wp2
                        replace HO_5 := Aside0.mk (Kd.R_drew HO_5.out)
                        replace HO_6 := Aside0.mk (Kd.R_drew HO_6.out)
                        replace HO_9 := Aside0.mk (Kd.R_drew HO_9.out)
                        replace BK201 := Aside0.mk (qbQ BK201.out)
                        replace BK225 := Aside0.mk (qbQ BK225.out)
                        replace BK230 := Aside0.mk (qbQ BK230.out)
                        replace HB := Aside0.mk (qbH HB.out)
                        have p239 : 0 ≤ (x16_3 : Int) := od
                        have q239 : x16_3 < (t202.length : Int) := od
                        obtain ⟨ad239, e239, hx239_0, hx239_1⟩ := qe8 (Kd.R_reads' HO_9.out).2.2 x16_3 p239 q239
                        obtain rfl : ad221 = ad239 := (by injection e239)
                        replace p239 := eq_true p239
                        replace q239 := eq_true q239
                        have p240 : 0 ≤ (x22_5 : Int) := od
                        have q240 : x22_5 < (t193.length : Int) := od
                        obtain ⟨ad240, e240, hx240_0⟩ := Kd.at_int (Kd.R_reads' HO_5.out).2.2 x22_5 p240 q240
                        cases e240
                        replace p240 := eq_true p240
                        replace q240 := eq_true q240
                        refine qd3 (n := 11) (S := fun w' => w'.cell? (ad221.add ((x16_3).toNat * 2)) = some (.int .i64 ((qaN t202 x16_3).f0)) ∧ w'.cell? ⟨(ad221.add ((x16_3).toNat * 2)).block, (ad221.add ((x16_3).toNat * 2)).off + 1, none⟩ = some (.int .i64 ((qaN t202 x16_3).f1)) ∧ w'.cell? (ad240.add (x22_5).toNat) = some (.int .i64 (rd t193 x22_5))) (ds := []) #[false, false, false, false, false, false, false, false, false, false, false] (by kernel_rfl) rfl rfl ⟨hx239_0, hx239_1, hx240_0⟩ (fun hHeld => ?_); refine qdW qaA.tab34 qaA.bits34 (fun HT_ HW_ => ?_)
                        generalize wr.drew = w121 at HO_5 HO_6 HO_9 BK201 BK225 BK230 HB hx239_0 hx239_1 hx240_0 hHeld ⊢
                        refine pA 0 (some 178) HT_ ?_
                        refine pA 1 (some 179) HT_ ?_
                        refine pA 2 (some 180) HT_ ?_
                        refine pA 4 (some 182) HT_ ?_
                        refine pA 5 (some 183) HT_ ?_
                        refine pA 6 (some 184) HT_ ?_
                        refine tA 3 (some 181) HT_ HW_ hHeld ?_
                        refine tA 7 (some 185) HT_ HW_ hHeld ?_
                        refine pA 8 (some 186) HT_ ?_
                        refine oA 9 (some 187) HT_ fun K hK => ?_
                        refine gs Try.func10 #[.agg #[.int .i64 ((qaN t202 x16_3).f0), .int .i64 ((qaN t202 x16_3).f1)], .int .i64 (wrap64 ((rd t193 x22_5) * 4294967296))] rfl ?_
                        with_reducible refine (qbN.calls ((qaN t202 x16_3).f0) ((qaN t202 x16_3).f1) (wrap64 ((rd t193 x22_5) * 4294967296)) true _ A110.out).mono ?_
                        rintro e w122 ⟨rfl, hb⟩
                        have HS0_ := hcb hb hHeld.1
                        have HS1_ := hcb hb hHeld.2.1
                        have HS2_ := hcb hb hHeld.2.2
                        refine ⟨_, rfl, ?_⟩
                        replace HO_5 := Aside0.mk (Kd.R_below (rq HO_5.out) hb)
                        replace HO_6 := Aside0.mk (Kd.R_below (rq HO_6.out) hb)
                        replace HO_9 := Aside0.mk (Kd.R_below (rq HO_9.out) hb)
                        replace BK201 := Aside0.mk (qaM (h0 BK201.out) hb)
                        replace BK225 := Aside0.mk (qaM (h0 BK225.out) hb)
                        replace BK230 := Aside0.mk (qaM (h0 BK230.out) hb)
                        replace HB := Aside0.mk (qaC (bq HB.out (.c GE201.out (.c GE225.out (.c GE230.out .n)))) hb)
                        (try clear hb)
                        (try clear hb2)
                        (try clear hk)
                        (try clear hi)
                        refine hK.out _ _ ⟨HS0_, HS1_, HS2_⟩ (fun hHeld => ?_)
                        clear hK K
                        refine nA (some 187) ?_
                        refine pA 10 (some 188) HT_ ?_
                        refine qfD (qe3 HT_.out (by kernel_rfl)) ?_
                        try go_wp2
                        replace HO_5 := Aside0.mk (Kd.R_drew HO_5.out)
                        replace HO_6 := Aside0.mk (Kd.R_drew HO_6.out)
                        replace HO_9 := Aside0.mk (Kd.R_drew HO_9.out)
                        replace BK201 := Aside0.mk (qbQ BK201.out)
                        replace BK225 := Aside0.mk (qbQ BK225.out)
                        replace BK230 := Aside0.mk (qbQ BK230.out)
                        replace HB := Aside0.mk (qbH HB.out)
                        have p242 : 0 ≤ (x22_5 : Int) := od
                        have q242 : x22_5 < (t193.length : Int) := od
                        obtain ⟨ad242, e242, hx242_0⟩ := Kd.at_int (Kd.R_reads' HO_5.out).2.2 x22_5 p242 q242
                        obtain rfl : ad240 = ad242 := (by injection e242)
                        replace p242 := eq_true p242
                        replace q242 := eq_true q242
                        have p244 : 0 ≤ (x22_5 : Int) := od
                        have q244 : x22_5 < (t193.length : Int) := od
                        obtain ⟨ad244, e244, hx244_0⟩ := Kd.at_int (Kd.R_reads' HO_5.out).2.2 x22_5 p244 q244
                        obtain rfl : ad240 = ad244 := (by injection e244)
                        replace p244 := eq_true p244
                        replace q244 := eq_true q244
                        refine qd3 (n := 18) (S := fun w' => w'.cell? ⟨gb225, 0, none⟩ = some (.int .i64 t222) ∧ w'.cell? ⟨gb225, 1, none⟩ = some (.int .i64 t223) ∧ w'.cell? ⟨gb230, 0, none⟩ = some (.int .i64 t227) ∧ w'.cell? ⟨gb230, 1, none⟩ = some (.int .i64 t228) ∧ w'.cell? (ad240.add (x22_5).toNat) = some (.int .i64 (rd t193 x22_5)) ∧ w'.cell? (ad240.add (x22_5).toNat) = some (.int .i64 (rd t193 x22_5))) (ds := []) #[false, false, false, false, false, false, false, false, false, false, false, false, false, false, false, false, false, false] (by kernel_rfl) rfl rfl ⟨(qaD BK225.out 0).trans rfl, (qaD BK225.out 1).trans rfl, (qaD BK230.out 0).trans rfl, (qaD BK230.out 1).trans rfl, hx242_0, hx244_0⟩ (fun hHeld => ?_); refine qdW qaA.tab36 qaA.bits36 (fun HT_ HW_ => ?_)
                        generalize w122.drew = w123 at HO_5 HO_6 HO_9 BK201 BK225 BK230 HB hx242_0 hx244_0 hHeld ⊢
                        refine pA 1 (some 192) HT_ ?_
                        refine pA 2 (some 193) HT_ ?_
                        refine pA 3 (some 194) HT_ ?_
                        refine tA 0 (some 191) HT_ HW_ hHeld ?_
                        refine tA 4 (some 195) HT_ HW_ hHeld ?_
                        refine pA 5 (some 196) HT_ ?_
                        refine oA 6 (some 197) HT_ fun K hK => ?_
                        refine gs Try.func10 #[.agg #[.int .i64 t222, .int .i64 t223], .int .i64 (wrap64 ((rd t193 x22_5) * 4294967296))] rfl ?_
                        with_reducible refine (qbN.calls t222 t223 (wrap64 ((rd t193 x22_5) * 4294967296)) true _ A112.out).mono ?_
                        rintro e w124 ⟨rfl, hb⟩
                        have HS4_ := hcb hb hHeld.2.2.2.2.1
                        have HS5_ := hcb hb hHeld.2.2.2.2.2
                        refine ⟨_, rfl, ?_⟩
                        replace HO_5 := Aside0.mk (Kd.R_below (rq HO_5.out) hb)
                        replace HO_6 := Aside0.mk (Kd.R_below (rq HO_6.out) hb)
                        replace HO_9 := Aside0.mk (Kd.R_below (rq HO_9.out) hb)
                        replace BK201 := Aside0.mk (qaM (h0 BK201.out) hb)
                        replace BK225 := Aside0.mk (qaM (h0 BK225.out) hb)
                        replace BK230 := Aside0.mk (qaM (h0 BK230.out) hb)
                        replace HB := Aside0.mk (qaC (bq HB.out (.c GE201.out (.c GE225.out (.c GE230.out .n)))) hb)
                        (try clear hb)
                        (try clear hb2)
                        (try clear hk)
                        (try clear hi)
                        refine hK.out _ _ ⟨(qaD BK225.out 0).trans rfl, (qaD BK225.out 1).trans rfl, (qaD BK230.out 0).trans rfl, (qaD BK230.out 1).trans rfl, HS4_, HS5_⟩ (fun hHeld => ?_)
                        clear hK K
                        refine nA (some 197) ?_
                        refine pA 7 (some 198) HT_ ?_
                        refine pA 8 (some 199) HT_ ?_
                        refine pA 10 (some 201) HT_ ?_
                        refine pA 11 (some 202) HT_ ?_
                        refine pA 12 (some 203) HT_ ?_
                        refine tA 9 (some 200) HT_ HW_ hHeld ?_
                        refine tA 13 (some 204) HT_ HW_ hHeld ?_
                        refine pA 14 (some 205) HT_ ?_
                        refine oA 15 (some 206) HT_ fun K hK => ?_
                        refine gs Try.func10 #[.agg #[.int .i64 t227, .int .i64 t228], .int .i64 (wrap64 ((rd t193 x22_5) * 4294967296))] rfl ?_
                        with_reducible refine (qbN.calls t227 t228 (wrap64 ((rd t193 x22_5) * 4294967296)) false _ A114.out).mono ?_
                        rintro e w125 ⟨rfl, hb⟩
                        have HS4_ := hcb hb hHeld.2.2.2.2.1
                        have HS5_ := hcb hb hHeld.2.2.2.2.2
                        refine ⟨_, rfl, ?_⟩
                        replace HO_5 := Aside0.mk (Kd.R_below (rq HO_5.out) hb)
                        replace HO_6 := Aside0.mk (Kd.R_below (rq HO_6.out) hb)
                        replace HO_9 := Aside0.mk (Kd.R_below (rq HO_9.out) hb)
                        replace BK201 := Aside0.mk (qaM (h0 BK201.out) hb)
                        replace BK225 := Aside0.mk (qaM (h0 BK225.out) hb)
                        replace BK230 := Aside0.mk (qaM (h0 BK230.out) hb)
                        replace HB := Aside0.mk (qaC (bq HB.out (.c GE201.out (.c GE225.out (.c GE230.out .n)))) hb)
                        (try clear hb)
                        (try clear hb2)
                        (try clear hk)
                        (try clear hi)
                        refine hK.out _ _ ⟨(qaD BK225.out 0).trans rfl, (qaD BK225.out 1).trans rfl, (qaD BK230.out 0).trans rfl, (qaD BK230.out 1).trans rfl, HS4_, HS5_⟩ (fun hHeld => ?_)
                        clear hK K
                        refine nA (some 206) ?_
                        refine pA 16 (some 207) HT_ ?_
                        refine pA 17 (some 208) HT_ ?_
                        refine qfD (qe3 HT_.out (by kernel_rfl)) ?_
                        try go_wp2
                        go_ret
                        exact ⟨by first | rfl | (simp [qbA, qa9] <;> rfl) | (simp [*, qbA, qa9] <;> rfl), bq HB.out (.c GE201.out (.c GE225.out (.c GE230.out .n)))⟩
                      ·as_aux_lemma =>
                       replace c113 := Bool.eq_false_iff.mpr c113
                       subst c113
                       have H1 : (some false) = some r := by rw [if_neg (show ¬ (false = true) by decide)] at H; exact H
                       clear H
                       have H := H1
                       clear H1
                       obtain rfl := Option.some.inj H
                       try go_wp2
                       replace HO_5 := Aside0.mk (Kd.R_drew HO_5.out)
                       replace HO_6 := Aside0.mk (Kd.R_drew HO_6.out)
                       replace HO_9 := Aside0.mk (Kd.R_drew HO_9.out)
                       replace BK201 := Aside0.mk (qbQ BK201.out)
                       replace BK225 := Aside0.mk (qbQ BK225.out)
                       replace BK230 := Aside0.mk (qbQ BK230.out)
                       replace HB := Aside0.mk (qbH HB.out)
                       have p239 : 0 ≤ (x16_3 : Int) := od
                       have q239 : x16_3 < (t202.length : Int) := od
                       obtain ⟨ad239, e239, hx239_0, hx239_1⟩ := qe8 (Kd.R_reads' HO_9.out).2.2 x16_3 p239 q239
                       obtain rfl : ad221 = ad239 := (by injection e239)
                       replace p239 := eq_true p239
                       replace q239 := eq_true q239
                       have p240 : 0 ≤ (x22_5 : Int) := od
                       have q240 : x22_5 < (t193.length : Int) := od
                       obtain ⟨ad240, e240, hx240_0⟩ := Kd.at_int (Kd.R_reads' HO_5.out).2.2 x22_5 p240 q240
                       cases e240
                       replace p240 := eq_true p240
                       replace q240 := eq_true q240
                       refine qd3 (n := 11) (S := fun w' => w'.cell? (ad221.add ((x16_3).toNat * 2)) = some (.int .i64 ((qaN t202 x16_3).f0)) ∧ w'.cell? ⟨(ad221.add ((x16_3).toNat * 2)).block, (ad221.add ((x16_3).toNat * 2)).off + 1, none⟩ = some (.int .i64 ((qaN t202 x16_3).f1)) ∧ w'.cell? (ad240.add (x22_5).toNat) = some (.int .i64 (rd t193 x22_5))) (ds := []) #[false, false, false, false, false, false, false, false, false, false, false] (by kernel_rfl) rfl rfl ⟨hx239_0, hx239_1, hx240_0⟩ (fun hHeld => ?_); refine qdW qaA.tab34 qaA.bits34 (fun HT_ HW_ => ?_)
                       generalize wr.drew = w126 at HO_5 HO_6 HO_9 BK201 BK225 BK230 HB hx239_0 hx239_1 hx240_0 hHeld ⊢
                       refine pA 0 (some 178) HT_ ?_
                       refine pA 1 (some 179) HT_ ?_
                       refine pA 2 (some 180) HT_ ?_
                       refine pA 4 (some 182) HT_ ?_
                       refine pA 5 (some 183) HT_ ?_
                       refine pA 6 (some 184) HT_ ?_
                       refine tA 3 (some 181) HT_ HW_ hHeld ?_
                       refine tA 7 (some 185) HT_ HW_ hHeld ?_
                       refine pA 8 (some 186) HT_ ?_
                       refine oA 9 (some 187) HT_ fun K hK => ?_
                       refine gs Try.func10 #[.agg #[.int .i64 ((qaN t202 x16_3).f0), .int .i64 ((qaN t202 x16_3).f1)], .int .i64 (wrap64 ((rd t193 x22_5) * 4294967296))] rfl ?_
                       with_reducible refine (qbN.calls ((qaN t202 x16_3).f0) ((qaN t202 x16_3).f1) (wrap64 ((rd t193 x22_5) * 4294967296)) true _ A110.out).mono ?_
                       rintro e w127 ⟨rfl, hb⟩
                       have HS0_ := hcb hb hHeld.1
                       have HS1_ := hcb hb hHeld.2.1
                       have HS2_ := hcb hb hHeld.2.2
                       refine ⟨_, rfl, ?_⟩
                       replace HO_5 := Aside0.mk (Kd.R_below (rq HO_5.out) hb)
                       replace HO_6 := Aside0.mk (Kd.R_below (rq HO_6.out) hb)
                       replace HO_9 := Aside0.mk (Kd.R_below (rq HO_9.out) hb)
                       replace BK201 := Aside0.mk (qaM (h0 BK201.out) hb)
                       replace BK225 := Aside0.mk (qaM (h0 BK225.out) hb)
                       replace BK230 := Aside0.mk (qaM (h0 BK230.out) hb)
                       replace HB := Aside0.mk (qaC (bq HB.out (.c GE201.out (.c GE225.out (.c GE230.out .n)))) hb)
                       (try clear hb)
                       (try clear hb2)
                       (try clear hk)
                       (try clear hi)
                       refine hK.out _ _ ⟨HS0_, HS1_, HS2_⟩ (fun hHeld => ?_)
                       clear hK K
                       refine nA (some 187) ?_
                       refine pA 10 (some 188) HT_ ?_
                       refine qfD (qe3 HT_.out (by kernel_rfl)) ?_
                       try go_wp2
                       replace HO_5 := Aside0.mk (Kd.R_drew HO_5.out)
                       replace HO_6 := Aside0.mk (Kd.R_drew HO_6.out)
                       replace HO_9 := Aside0.mk (Kd.R_drew HO_9.out)
                       replace BK201 := Aside0.mk (qbQ BK201.out)
                       replace BK225 := Aside0.mk (qbQ BK225.out)
                       replace BK230 := Aside0.mk (qbQ BK230.out)
                       replace HB := Aside0.mk (qbH HB.out)
                       have p242 : 0 ≤ (x22_5 : Int) := od
                       have q242 : x22_5 < (t193.length : Int) := od
                       obtain ⟨ad242, e242, hx242_0⟩ := Kd.at_int (Kd.R_reads' HO_5.out).2.2 x22_5 p242 q242
                       obtain rfl : ad240 = ad242 := (by injection e242)
                       replace p242 := eq_true p242
                       replace q242 := eq_true q242
                       refine qd3 (n := 18) (S := fun w' => w'.cell? ⟨gb225, 0, none⟩ = some (.int .i64 t222) ∧ w'.cell? ⟨gb225, 1, none⟩ = some (.int .i64 t223) ∧ w'.cell? (ad240.add (x22_5).toNat) = some (.int .i64 (rd t193 x22_5))) (ds := []) #[false, false, false, false, false, false, false, false, false, false, false, false, false, false, false, false, false, false] (by kernel_rfl) rfl rfl ⟨(qaD BK225.out 0).trans rfl, (qaD BK225.out 1).trans rfl, hx242_0⟩ (fun hHeld => ?_); refine qdW qaA.tab36 qaA.bits36 (fun HT_ HW_ => ?_)
                       generalize w127.drew = w128 at HO_5 HO_6 HO_9 BK201 BK225 BK230 HB hx242_0 hHeld ⊢
                       refine pA 1 (some 192) HT_ ?_
                       refine pA 2 (some 193) HT_ ?_
                       refine pA 3 (some 194) HT_ ?_
                       refine tA 0 (some 191) HT_ HW_ hHeld ?_
                       refine tA 4 (some 195) HT_ HW_ hHeld ?_
                       refine pA 5 (some 196) HT_ ?_
                       refine oA 6 (some 197) HT_ fun K hK => ?_
                       refine gs Try.func10 #[.agg #[.int .i64 t222, .int .i64 t223], .int .i64 (wrap64 ((rd t193 x22_5) * 4294967296))] rfl ?_
                       with_reducible refine (qbN.calls t222 t223 (wrap64 ((rd t193 x22_5) * 4294967296)) false _ A112.out).mono ?_
                       rintro e w129 ⟨rfl, hb⟩
                       have HS2_ := hcb hb hHeld.2.2
                       refine ⟨_, rfl, ?_⟩
                       replace HO_5 := Aside0.mk (Kd.R_below (rq HO_5.out) hb)
                       replace HO_6 := Aside0.mk (Kd.R_below (rq HO_6.out) hb)
                       replace HO_9 := Aside0.mk (Kd.R_below (rq HO_9.out) hb)
                       replace BK201 := Aside0.mk (qaM (h0 BK201.out) hb)
                       replace BK225 := Aside0.mk (qaM (h0 BK225.out) hb)
                       replace BK230 := Aside0.mk (qaM (h0 BK230.out) hb)
                       replace HB := Aside0.mk (qaC (bq HB.out (.c GE201.out (.c GE225.out (.c GE230.out .n)))) hb)
                       (try clear hb)
                       (try clear hb2)
                       (try clear hk)
                       (try clear hi)
                       refine hK.out _ _ ⟨(qaD BK225.out 0).trans rfl, (qaD BK225.out 1).trans rfl, HS2_⟩ (fun hHeld => ?_)
                       clear hK K
                       refine nA (some 197) ?_
                       refine pA 7 (some 198) HT_ ?_
                       refine pA 8 (some 199) HT_ ?_
                       refine pB 9 (some 200) HT_ ?_
                       refine pB 10 (some 201) HT_ ?_
                       refine pB 11 (some 202) HT_ ?_
                       refine pB 12 (some 203) HT_ ?_
                       refine pB 13 (some 204) HT_ ?_
                       refine pB 14 (some 205) HT_ ?_
                       refine pB 15 (some 206) HT_ ?_
                       refine pB 16 (some 207) HT_ ?_
                       refine pA 17 (some 208) HT_ ?_
                       refine qfD (qe3 HT_.out (by kernel_rfl)) ?_
                       try go_wp2
                       go_ret
                       exact ⟨by first | rfl | (simp [qbA, qa9] <;> rfl) | (simp [*, qbA, qa9] <;> rfl), bq HB.out (.c GE201.out (.c GE225.out (.c GE230.out .n)))⟩
                     ·as_aux_lemma =>
                      replace c111 := Bool.eq_false_iff.mpr c111
                      subst c111
                      have H1 : (qaA.l4 k5 t193 t196 t202 x16_3 x21_5 (wrap64 (x22_5 + 1)) t222 t223 t227 t228) = some r := by rw [if_neg (show ¬ (false = true) by decide)] at H; exact H
                      clear H
                      have H := H1
                      clear H1
                      have H' := Aside0.mk H
                      clear H
                      try go_wp2
                      replace HO_5 := Aside0.mk (Kd.R_drew HO_5.out)
                      replace HO_6 := Aside0.mk (Kd.R_drew HO_6.out)
                      replace HO_9 := Aside0.mk (Kd.R_drew HO_9.out)
                      replace BK201 := Aside0.mk (qbQ BK201.out)
                      replace BK225 := Aside0.mk (qbQ BK225.out)
                      replace BK230 := Aside0.mk (qbQ BK230.out)
                      replace HB := Aside0.mk (qbH HB.out)
                      have p239 : 0 ≤ (x16_3 : Int) := od
                      have q239 : x16_3 < (t202.length : Int) := od
                      obtain ⟨ad239, e239, hx239_0, hx239_1⟩ := qe8 (Kd.R_reads' HO_9.out).2.2 x16_3 p239 q239
                      obtain rfl : ad221 = ad239 := (by injection e239)
                      replace p239 := eq_true p239
                      replace q239 := eq_true q239
                      have p240 : 0 ≤ (x22_5 : Int) := od
                      have q240 : x22_5 < (t193.length : Int) := od
                      obtain ⟨ad240, e240, hx240_0⟩ := Kd.at_int (Kd.R_reads' HO_5.out).2.2 x22_5 p240 q240
                      cases e240
                      replace p240 := eq_true p240
                      replace q240 := eq_true q240
                      refine qd3 (n := 11) (S := fun w' => w'.cell? (ad221.add ((x16_3).toNat * 2)) = some (.int .i64 ((qaN t202 x16_3).f0)) ∧ w'.cell? ⟨(ad221.add ((x16_3).toNat * 2)).block, (ad221.add ((x16_3).toNat * 2)).off + 1, none⟩ = some (.int .i64 ((qaN t202 x16_3).f1)) ∧ w'.cell? (ad240.add (x22_5).toNat) = some (.int .i64 (rd t193 x22_5))) (ds := []) #[false, false, false, false, false, false, false, false, false, false, false] (by kernel_rfl) rfl rfl ⟨hx239_0, hx239_1, hx240_0⟩ (fun hHeld => ?_); refine qdW qaA.tab34 qaA.bits34 (fun HT_ HW_ => ?_)
                      generalize wr.drew = w130 at HO_5 HO_6 HO_9 BK201 BK225 BK230 HB hx239_0 hx239_1 hx240_0 hHeld ⊢
                      refine pA 0 (some 178) HT_ ?_
                      refine pA 1 (some 179) HT_ ?_
                      refine pA 2 (some 180) HT_ ?_
                      refine pA 4 (some 182) HT_ ?_
                      refine pA 5 (some 183) HT_ ?_
                      refine pA 6 (some 184) HT_ ?_
                      refine tA 3 (some 181) HT_ HW_ hHeld ?_
                      refine tA 7 (some 185) HT_ HW_ hHeld ?_
                      refine pA 8 (some 186) HT_ ?_
                      refine oA 9 (some 187) HT_ fun K hK => ?_
                      refine gs Try.func10 #[.agg #[.int .i64 ((qaN t202 x16_3).f0), .int .i64 ((qaN t202 x16_3).f1)], .int .i64 (wrap64 ((rd t193 x22_5) * 4294967296))] rfl ?_
                      with_reducible refine (qbN.calls ((qaN t202 x16_3).f0) ((qaN t202 x16_3).f1) (wrap64 ((rd t193 x22_5) * 4294967296)) false _ A110.out).mono ?_
                      rintro e w131 ⟨rfl, hb⟩
                      have HS0_ := hcb hb hHeld.1
                      have HS1_ := hcb hb hHeld.2.1
                      have HS2_ := hcb hb hHeld.2.2
                      refine ⟨_, rfl, ?_⟩
                      replace HO_5 := Aside0.mk (Kd.R_below (rq HO_5.out) hb)
                      replace HO_6 := Aside0.mk (Kd.R_below (rq HO_6.out) hb)
                      replace HO_9 := Aside0.mk (Kd.R_below (rq HO_9.out) hb)
                      replace BK201 := Aside0.mk (qaM (h0 BK201.out) hb)
                      replace BK225 := Aside0.mk (qaM (h0 BK225.out) hb)
                      replace BK230 := Aside0.mk (qaM (h0 BK230.out) hb)
                      replace HB := Aside0.mk (qaC (bq HB.out (.c GE201.out (.c GE225.out (.c GE230.out .n)))) hb)
                      (try clear hb)
                      (try clear hb2)
                      (try clear hk)
                      (try clear hi)
                      refine hK.out _ _ ⟨HS0_, HS1_, HS2_⟩ (fun hHeld => ?_)
                      clear hK K
                      refine nA (some 187) ?_
                      refine pA 10 (some 188) HT_ ?_
                      refine qfD (qe3 HT_.out (by kernel_rfl)) ?_
                      try go_wp2
                      go_roundg k5
                      case measure => have := HJ8.out; have := HK2.out; have := HK3.out; have := HJ62.out; have := HK5.out; omega
                      case rel => exact ⟨(x21_5), (wrap64 (x22_5 + 1)), er, er, H', ⟨by have := HJ8.out; have := HK2.out; have := HK3.out; have := HJ62.out; have := HK5.out; omega⟩, ⟨rq HO_5.out⟩, ⟨rq HO_6.out⟩, ⟨rq HO_9.out⟩, ⟨h0 BK201.out⟩, ⟨h0 BK225.out⟩, ⟨h0 BK230.out⟩, ⟨bq HB.out (.c GE201.out (.c GE225.out (.c GE230.out .n)))⟩⟩
                    ·rw [if_neg c109] at H
                     exact absurd H (by simp)
                   ·rw [if_neg c108] at H
                    exact absurd H (by simp)
                  ·rw [if_neg c107] at H
                   exact absurd H (by simp)
                 ·rw [if_neg c106] at H
                  have c106b0 : decide (x22_5 < (t193.length : Int)) = false := decide_eq_false c106
                  clear c106
                  by_cases c132 : x21_5 = 1
                  ·rw [if_pos c132] at H
                   have c132b0 : (x21_5 == 1) = true := beq_iff_eq.mpr c132
                   have c132b1 : (x21_5 != 1) = false := bne_eq_false_iff_eq.mpr c132
                   clear c132
                   have H' := Aside0.mk H
                   clear H
                   go_wp2
                   go_roundg k5
                   case measure => have := HJ8.out; have := HK2.out; have := HK3.out; have := HJ62.out; have := HK5.out; omega
                   case rel => exact ⟨(wrap64 (x16_3 + 1)), er, H', ⟨by have := HJ8.out; have := HK2.out; have := HK3.out; have := HJ62.out; have := HK5.out; omega⟩, ⟨rq HO_5.out⟩, ⟨by (with_reducible repeat (first | apply Kd.R_alloc | apply Kd.R_drewN | apply Kd.R_drew)); exact Kd.R_mono HO_6.out (fun _ hk => ⟨hk.1, hk.2.1⟩)⟩, ⟨by (with_reducible repeat (first | apply Kd.R_alloc | apply Kd.R_drewN | apply Kd.R_drew)); exact Kd.R_mono HO_9.out (fun _ hk => ⟨hk.1, hk.2.1⟩)⟩, ⟨h0 BK201.out⟩, ⟨bq HB.out (.c GE201.out (.c GE225.out (.c GE230.out .n)))⟩⟩
                  ·rw [if_neg c132] at H
                   have c132b0 : (x21_5 == 1) = false := beq_eq_false_iff_ne.mpr c132
                   have c132b1 : (x21_5 != 1) = true := bne_iff_ne.mpr c132
                   obtain rfl := Option.some.inj H
                   go_wp2
                   go_ret
                   exact ⟨by first | rfl | (simp [qbA, qa9] <;> rfl) | (simp [*, qbA, qa9] <;> rfl), bq HB.out (.c GE201.out (.c GE225.out (.c GE230.out .n)))⟩
           ·rw [if_neg c60] at H
            exact absurd H (by simp)
          ·rw [if_neg c59] at H
           have c59b0 : decide (x16_3 < (t202.length : Int)) = false := decide_eq_false c59
           clear c59
           obtain rfl := Option.some.inj H
           obtain ⟨Ao133, co133, eo133⟩ := Kd.R_slice HO_9.out
           subst eo133
           go_wp2
           go_ret
           exact ⟨by first | rfl | (simp [qbA, qa9] <;> rfl) | (simp [*, qbA, qa9] <;> rfl), bq HB.out (.c GE201.out .n)⟩
end Go.Proofs.Ytogpbandlpjccaa.TX
