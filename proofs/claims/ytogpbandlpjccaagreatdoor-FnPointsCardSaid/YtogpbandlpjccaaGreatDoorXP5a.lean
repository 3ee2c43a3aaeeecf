/- The machine walks these functions as the plain functions say; written by a program of this session out of the translation, with contracts of some functions of our own. -/
import Derived.Test.YtogpbandlpjccaaGreatDoorXP3
import Derived.Test.YtogpbandlpjccaaGreatDoorXP4
namespace Go.Proofs.YtogpbandlpjccaaGreatDoor.TX
open Go.RowKit Go.Proofs.YtogpbandlpjccaaGreatDoorW.PrintWords Go.Proofs.YtogpbandlpjccaaGreatDoorW.PrintLast Go.Proofs.YtogpbandlpjccaaGreatDoorW.PrintMore
attribute [local go_sem] max2_int min2_int max_two min_two max_three min_three max_four min_four   -- for this text's walks alone
set_option linter.unusedVariables false
set_option linter.unusedSimpArgs false
attribute [local go_sem high] eqA28
mutual
def laws_FnPoints.j0 : Nat → Bool → Int → Int → Int → Int → Option (Bool)
  | 0, _, _, _, _, _ => none
  | k + 1, x70, x226000, x226001, x229000, x229001 => if x70 = true then (some false) else ((impl_LonBetween.f x226000 x226001 x229000 x229001).bind fun bt238 => ((impl_LonBetween.f x229000 x229001 x226000 x226001).bind fun bt240 => (if bt238.2 = 0 then (if bt240.2 = 0 then (if bt238.1 = (wrap64 (-bt240.1)) then ((impl_WrapLon.f (wrap64 (x226001 + bt238.1))).bind fun t242 => (laws_FnPoints.j1 k (t242 != x229001) x226000 x226001)) else (if (wrap64 (bt238.1 + bt240.1)) = 3600000000 then ((impl_WrapLon.f (wrap64 (x226001 + bt238.1))).bind fun t243 => (laws_FnPoints.j1 k (t243 != x229001) x226000 x226001)) else (laws_FnPoints.j1 k true x226000 x226001))) else (laws_FnPoints.j1 k true x226000 x226001)) else (laws_FnPoints.j1 k true x226000 x226001))))
def laws_FnPoints.j1 : Nat → Bool → Int → Int → Option (Bool)
  | 0, _, _, _ => none
  | k + 1, x110, x226000, x226001 => if x110 = true then (some false) else ((impl_Antipode.f x226000 x226001).bind fun bt244 => ((impl_Antipode.f bt244.1 bt244.2.1).bind fun bt248 => ((impl_SamePlace.f x226000 x226001 bt248.1 bt248.2.1).bind fun bt252 => ((impl_LatOf.f x226000 x226001).bind fun bt254 => ((impl_LonOf.f x226000 x226001).bind fun bt256 => ((impl_MiddlePoint.f bt254.1 bt254.2 bt256.1 bt256.2).bind fun bt258 => (if bt244.2.2 = 0 then (if bt248.2.2 = 0 then (if bt252.2 = 0 then (if bt252.1 = true then (if bt258.2.2.2 = 0 then (if bt258.2.2.1 ≥ 0 then (if bt258.2.2.1 ≤ 2 then ((laws_d8Size.f (wrap64 (bt258.1 - x226000))).bind fun t263 => (if t263 ≤ bt258.2.2.1 then ((impl_WrapLon.f (wrap64 (bt258.2.1 - x226001))).bind fun t264 => ((laws_d8Size.f t264).bind fun t265 => (if t265 ≤ bt258.2.2.1 then ((impl_LatOf.f x226000 x226001).bind fun bt266 => ((impl_LonOf.f x226000 x226001).bind fun bt268 => ((impl_AtPoint.f bt266.1 bt266.2 bt268.1 bt268.2 x226000 x226001).bind fun t270 => (some t270)))) else (some false)))) else (some false))) else (some false)) else (some false)) else (some false)) else (some false)) else (some false)) else (some false)) else (some false))))))))
end
def laws_FnPoints.f (k : Nat) (l0 : List Int) (l1 : List Int) : Option (Bool) := (laws_d8Long.f l0 l1).bind fun t222 => (if t222 = true then (some true) else ((spec_E8Point.f k l0).bind fun bt223 => ((spec_E8Point.f k l1).bind fun bt226 => ((impl_PointText.f k bt223.1 bt223.2).bind fun t229 => ((impl_ReadPoint.f t229).bind fun bt230 => ((impl_AngleText.f k bt223.2).bind fun bt234 => ((impl_ReadAngle.f k bt234.1).bind fun bt236 => (if bt230.2.2 = true then (if (!(bt230.1 == bt223.1) || (!(bt230.2.1 == bt223.2))) = true then (laws_FnPoints.j0 k true bt223.1 bt223.2 bt226.1 bt226.2) else (if bt234.2 = 0 then (if bt236.2 = true then (laws_FnPoints.j0 k (bt236.1 != bt223.2) bt223.1 bt223.2 bt226.1 bt226.2) else (laws_FnPoints.j0 k true bt223.1 bt223.2 bt226.1 bt226.2)) else (laws_FnPoints.j0 k true bt223.1 bt223.2 bt226.1 bt226.2))) else (laws_FnPoints.j0 k true bt223.1 bt223.2 bt226.1 bt226.2)))))))))
theorem laws_FnPoints.mono_l : ∀ k, (∀ y0 y1 y2 y3 y4, LeO (laws_FnPoints.j0 k y0 y1 y2 y3 y4) (laws_FnPoints.j0 (k + 1) y0 y1 y2 y3 y4)) ∧ (∀ y0 y1 y2, LeO (laws_FnPoints.j1 k y0 y1 y2) (laws_FnPoints.j1 (k + 1) y0 y1 y2))
  | 0 => ⟨fun _ _ _ _ _ r h => by simp [laws_FnPoints.j0] at h, fun _ _ _ r h => by simp [laws_FnPoints.j1] at h⟩
  | k + 1 => by
    obtain ⟨ih0, ih1⟩ := laws_FnPoints.mono_l k
    refine ⟨?_, ?_⟩
    · intro y0 y1 y2 y3 y4
      unfold laws_FnPoints.j0
      repeat' first
      | (with_reducible exact ih0 _ _ _ _ _)
      | (with_reducible exact ih1 _ _ _)
      | (with_reducible exact impl_AngleText.mono _ _)
      | (with_reducible exact impl_PointText.mono _ _ _)
      | (with_reducible exact impl_ReadAngle.mono _ _)
      | (with_reducible exact spec_E8Point.mono _ _)
      | (with_reducible exact LeO.refl _)
      | (with_reducible exact LeO.none _)
      | (with_reducible refine LeO.ite ?_ ?_)
      | (with_reducible refine LeO.bind ?_ (fun _ => ?_))
      | exact ih0 _ _ _ _ _
      | exact ih1 _ _ _
      | exact impl_AngleText.mono _ _
      | exact impl_PointText.mono _ _ _
      | exact impl_ReadAngle.mono _ _
      | exact spec_E8Point.mono _ _
      | exact LeO.none _
      | refine LeO.ite ?_ ?_
      | refine LeO.bind ?_ (fun _ => ?_)
    · intro y0 y1 y2
      unfold laws_FnPoints.j1
      repeat' first
      | (with_reducible exact ih0 _ _ _ _ _)
      | (with_reducible exact ih1 _ _ _)
      | (with_reducible exact impl_AngleText.mono _ _)
      | (with_reducible exact impl_PointText.mono _ _ _)
      | (with_reducible exact impl_ReadAngle.mono _ _)
      | (with_reducible exact spec_E8Point.mono _ _)
      | (with_reducible exact LeO.refl _)
      | (with_reducible exact LeO.none _)
      | (with_reducible refine LeO.ite ?_ ?_)
      | (with_reducible refine LeO.bind ?_ (fun _ => ?_))
      | exact ih0 _ _ _ _ _
      | exact ih1 _ _ _
      | exact impl_AngleText.mono _ _
      | exact impl_PointText.mono _ _ _
      | exact impl_ReadAngle.mono _ _
      | exact spec_E8Point.mono _ _
      | exact LeO.none _
      | refine LeO.ite ?_ ?_
      | refine LeO.bind ?_ (fun _ => ?_)
theorem laws_FnPoints.mono : ∀ a0 a1 k, LeO (laws_FnPoints.f k a0 a1) (laws_FnPoints.f (k + 1) a0 a1) := by
  intro a0 a1 k
  obtain ⟨ih0, ih1⟩ := laws_FnPoints.mono_l k
  unfold laws_FnPoints.f
  repeat' first
      | (with_reducible exact ih0 _ _ _ _ _)
      | (with_reducible exact ih1 _ _ _)
      | (with_reducible exact impl_AngleText.mono _ _)
      | (with_reducible exact impl_PointText.mono _ _ _)
      | (with_reducible exact impl_ReadAngle.mono _ _)
      | (with_reducible exact spec_E8Point.mono _ _)
      | (with_reducible exact LeO.refl _)
      | (with_reducible exact LeO.none _)
      | (with_reducible refine LeO.ite ?_ ?_)
      | (with_reducible refine LeO.bind ?_ (fun _ => ?_))
      | exact ih0 _ _ _ _ _
      | exact ih1 _ _ _
      | exact impl_AngleText.mono _ _
      | exact impl_PointText.mono _ _ _
      | exact impl_ReadAngle.mono _ _
      | exact spec_E8Point.mono _ _
      | exact LeO.none _
      | refine LeO.ite ?_ ?_
      | refine LeO.bind ?_ (fun _ => ?_)
def laws_FnPoints.T12 : Bool × List (List Nat × List Nat) := (true, [([], []), ([0], [0]), ([1], [1]), ([2], [2]), ([3, 2], [2, 3]), ([2, 4], [2, 4]), ([5, 2], [5]), ([6], [6]), ([6], [6]), ([8, 6], [6, 8]), ([7, 9, 6], [6, 7, 9]), ([10, 6, 6], [6, 10]), ([11], [11]), ([11], [11]), ([12, 13, 11], [11, 12, 13]), ([14, 11], [11, 14]), ([11, 15, 6], [6, 11, 15]), ([6, 16], [6, 16]), ([17, 11], [17]), ([18], [18]), ([19, 18], [18, 19]), ([18], [18]), ([20, 21, 18], [18, 20, 21]), ([22, 18, 18], [18, 22]), ([18], [18]), ([24, 18], [18, 24]), ([23, 25, 18], [18, 23, 25]), ([18, 26], [18, 26])])
def laws_FnPoints.B12 : List Nat := [0, 1, 3, 7, 15, 31, 63, 127, 127, 383, 1023, 2047, 4095, 4095, 16383, 32767, 65535, 131071, 262143, 524287, 1048575, 524287, 4194303, 8388607, 524287, 17301503, 67108863, 134217727]
theorem laws_FnPoints.tab12 : rtab .any (opsOf Tryz.f4 12) = laws_FnPoints.T12 := by kernel_rfl
theorem laws_FnPoints.bits12 : waitsOk laws_FnPoints.T12.2 laws_FnPoints.B12 = true := by kernel_rfl
def laws_FnPoints.T17 : Bool × List (List Nat × List Nat) := (true, [([], []), ([0], [0]), ([], []), ([2, 1], [2]), ([1, 3, 3], [1, 3]), ([4], [4]), ([5], [5]), ([5], [5]), ([5], [5]), ([], []), ([9, 6, 4, 0, 1, 2, 3, 4, 5, 6, 9], [6, 9]), ([7, 10, 0, 1, 2, 3, 4, 5, 6, 7, 9, 10], [7]), ([8, 11, 0, 1, 2, 3, 4, 5, 6, 7, 8, 9, 10, 11], [8])])
def laws_FnPoints.B17 : List Nat := [0, 1, 0, 7, 15, 31, 63, 63, 63, 0, 639, 1791, 4095]
theorem laws_FnPoints.tab17 : rtab .any (opsOf Tryz.f4 17) = laws_FnPoints.T17 := by kernel_rfl
theorem laws_FnPoints.bits17 : waitsOk laws_FnPoints.T17.2 laws_FnPoints.B17 = true := by kernel_rfl
def laws_FnPoints.T18 : Bool × List (List Nat × List Nat) := (true, [([], []), ([0], [0]), ([1], [1]), ([2], [2]), ([3, 2], [2, 3]), ([2, 4], [2, 4]), ([5, 2], [5]), ([6], [6]), ([7, 6], [6, 7]), ([6, 8], [6, 8]), ([9, 6], [9]), ([10], [10]), ([10, 11], [10, 11]), ([12, 10], [12]), ([13], [13]), ([14, 13], [13, 14]), ([13, 15], [13, 15]), ([16, 13], [16]), ([17], [17]), ([18, 17], [17, 18]), ([17, 19], [17, 19]), ([20, 17], [20]), ([21], [21]), ([22, 21], [21, 22]), ([21, 23], [21, 23]), ([24, 21], [24]), ([25], [25]), ([26, 25], [25, 26]), ([25], [25]), ([28, 25], [25, 28]), ([27, 29, 25], [25, 27, 29]), ([30, 25, 25], [25, 30]), ([25], [25]), ([31, 32, 25], [25, 31, 32]), ([25, 33], [25, 33]), ([34, 31], [34]), ([35], [35]), ([36, 35], [35, 36]), ([35], [35]), ([38, 35], [35, 38]), ([37, 39, 35], [35, 37, 39]), ([40, 35, 35], [35, 40]), ([41, 41, 35], [35, 41]), ([35], [35]), ([42, 43, 35], [35, 42, 43]), ([35, 44], [35, 44]), ([45, 42], [45]), ([46], [46]), ([47, 46, 46], [46, 47]), ([46], [46]), ([49, 48, 46], [46, 49]), ([46], [46]), ([48, 50, 51, 50, 46], [46, 48, 50, 51]), ([46, 52], [46, 52]), ([53, 52, 0, 1, 2, 3, 4, 5, 6, 7, 8, 9, 10, 11, 12, 13, 14, 15, 16, 17, 18, 19, 20, 21, 22, 23, 24, 25, 26, 27, 28, 29, 30, 31, 32, 33, 34, 35, 36, 37, 38, 39, 40, 41, 42, 43, 44, 45, 46, 47, 48, 49, 50, 51, 52, 53], [53])])
def laws_FnPoints.B18 : List Nat := [0, 1, 3, 7, 15, 31, 63, 127, 255, 511, 1023, 2047, 4095, 8191, 16383, 32767, 65535, 131071, 262143, 524287, 1048575, 2097151, 4194303, 8388607, 16777215, 33554431, 67108863, 134217727, 67108863, 335544319, 1073741823, 2147483647, 67108863, 8589934591, 17179869183, 34359738367, 68719476735, 137438953471, 68719476735, 343597383679, 1099511627775, 2199023255551, 4398046511103, 68719476735, 17592186044415, 35184372088831, 70368744177663, 140737488355327, 281474976710655, 140737488355327, 1125899906842623, 140737488355327, 4503599627370495, 9007199254740991, 18014398509481983]
theorem laws_FnPoints.tab18 : rtab .any (opsOf Tryz.f4 18) = laws_FnPoints.T18 := by kernel_rfl
theorem laws_FnPoints.bits18 : waitsOk laws_FnPoints.T18.2 laws_FnPoints.B18 = true := by kernel_rfl
set_option maxHeartbeats 8000000 in
set_option maxRecDepth 100000 in
theorem laws_FnPoints.calls {b_ : Bool} (k : Nat) (A0 : Option Addr) (c0 : Nat) (l0 : List Int) (A1 : Option Addr) (c1 : Nat) (l1 : List Int) (r : Bool) (w : World) (hO_ : Ok_ b_ w) (hr0 : Kd.C (Kd.int .u8) w A0 l0.length l0) (hc0 : l0.length ≤ c0) (hr1 : Kd.C (Kd.int .u8) w A1 l1.length l1) (hc1 : l1.length ≤ c1) (hr_ : r = true) (h : laws_FnPoints.f k l0 l1 = some r) :
    Calls Tryz.prog 4 #[.slice A0 l0.length c0, .slice A1 l1.length c1] w fun e w' => e = .returned (.bool r) ∧ Below w.heap.size w w' := by
  have HR_ := Aside0.mk hr_
  clear hr_
  have hu28 := Tryz.underlying28
  have HR0 := Aside0.mk hr0
  have HC0 := Aside0.mk hc0
  clear hr0 hc0
  have HR1 := Aside0.mk hr1
  have HC1 := Aside0.mk hc1
  clear hr1 hc1
  have HB := Aside0.mk (Below.refl w.heap.size w)
  have H : ((laws_d8Long.f l0 l1).bind fun t222 => (if t222 = true then (some true) else ((spec_E8Point.f k l0).bind fun bt223 => ((spec_E8Point.f k l1).bind fun bt226 => ((impl_PointText.f k bt223.1 bt223.2).bind fun t229 => ((impl_ReadPoint.f t229).bind fun bt230 => ((impl_AngleText.f k bt223.2).bind fun bt234 => ((impl_ReadAngle.f k bt234.1).bind fun bt236 => (if bt230.2.2 = true then (if (!(bt230.1 == bt223.1) || (!(bt230.2.1 == bt223.2))) = true then (laws_FnPoints.j0 k true bt223.1 bt223.2 bt226.1 bt226.2) else (if bt234.2 = 0 then (if bt236.2 = true then (laws_FnPoints.j0 k (bt236.1 != bt223.2) bt223.1 bt223.2 bt226.1 bt226.2) else (laws_FnPoints.j0 k true bt223.1 bt223.2 bt226.1 bt226.2)) else (laws_FnPoints.j0 k true bt223.1 bt223.2 bt226.1 bt226.2))) else (laws_FnPoints.j0 k true bt223.1 bt223.2 bt226.1 bt226.2)))))))))) = some r := h
  clear h
  replace H := Option.bind_eq_some_iff.mp H
  obtain ⟨t222, A30, H⟩ := H
  replace H : (if t222 = true then (some true) else ((spec_E8Point.f k l0).bind fun bt223 => ((spec_E8Point.f k l1).bind fun bt226 => ((impl_PointText.f k bt223.1 bt223.2).bind fun t229 => ((impl_ReadPoint.f t229).bind fun bt230 => ((impl_AngleText.f k bt223.2).bind fun bt234 => ((impl_ReadAngle.f k bt234.1).bind fun bt236 => (if bt230.2.2 = true then (if (!(bt230.1 == bt223.1) || (!(bt230.2.1 == bt223.2))) = true then (laws_FnPoints.j0 k true bt223.1 bt223.2 bt226.1 bt226.2) else (if bt234.2 = 0 then (if bt236.2 = true then (laws_FnPoints.j0 k (bt236.1 != bt223.2) bt223.1 bt223.2 bt226.1 bt226.2) else (laws_FnPoints.j0 k true bt223.1 bt223.2 bt226.1 bt226.2)) else (laws_FnPoints.j0 k true bt223.1 bt223.2 bt226.1 bt226.2))) else (laws_FnPoints.j0 k true bt223.1 bt223.2 bt226.1 bt226.2))))))))) = some r := H
  have A3 := Aside0.mk A30
  clear A30
  by_cases c4 : t222 = true
  · subst c4
    have H1 : (some true) = some r := by rw [if_pos rfl] at H; exact H
    clear H
    have H := H1
    clear H1
    obtain rfl := Option.some.inj H
    go_enter Tryz.func4, Tryz.ntmps4
    go_wp2_with (first | ((with_reducible refine gate_callee (f := 20) rfl ?_); refine goesL_ (some 28) rfl rfl Tryz.func20 (by kernel_rfl) rfl #[.slice A0 l0.length c0, .slice A1 l1.length c1] rfl (by (try simp only [List.map_toArray, List.map_cons, List.map_nil]); first | done | rfl | (simp only [List.length_drop, List.length_take]; rfl)) ?_; (with_reducible refine (laws_d8Long.calls _ _ l0 _ _ l1 true _ ?side1 ?side2 ?side3 ?side4 A3.out).mono ?_); (case side1 => repeat (first | exact HR0.out | (with_reducible refine Kd.C_alloc ?_ _) | (with_reducible refine Kd.C_drewN ?_ _) | (with_reducible refine Kd.C_drew ?_))); (case side2 => exact HC0.out); (case side3 => repeat (first | exact HR1.out | (with_reducible refine Kd.C_alloc ?_ _) | (with_reducible refine Kd.C_drewN ?_ _) | (with_reducible refine Kd.C_drew ?_))); (case side4 => exact HC1.out); rintro e w' ⟨rfl, ⟨nd, rfl⟩⟩; refine ⟨_, rfl, ?_⟩))
    go_ret
    exact ⟨by first | rfl | (simp [errW_none, errW_some] <;> rfl) | (simp [*, errW_none, errW_some] <;> rfl), b0 HB.out⟩
  · as_aux_lemma =>
    replace c4 := Bool.eq_false_iff.mpr c4
    subst c4
    have H1 : ((spec_E8Point.f k l0).bind fun bt223 => ((spec_E8Point.f k l1).bind fun bt226 => ((impl_PointText.f k bt223.1 bt223.2).bind fun t229 => ((impl_ReadPoint.f t229).bind fun bt230 => ((impl_AngleText.f k bt223.2).bind fun bt234 => ((impl_ReadAngle.f k bt234.1).bind fun bt236 => (if bt230.2.2 = true then (if (!(bt230.1 == bt223.1) || (!(bt230.2.1 == bt223.2))) = true then (laws_FnPoints.j0 k true bt223.1 bt223.2 bt226.1 bt226.2) else (if bt234.2 = 0 then (if bt236.2 = true then (laws_FnPoints.j0 k (bt236.1 != bt223.2) bt223.1 bt223.2 bt226.1 bt226.2) else (laws_FnPoints.j0 k true bt223.1 bt223.2 bt226.1 bt226.2)) else (laws_FnPoints.j0 k true bt223.1 bt223.2 bt226.1 bt226.2))) else (laws_FnPoints.j0 k true bt223.1 bt223.2 bt226.1 bt226.2)))))))) = some r := by rw [if_neg (show ¬ (false = true) by decide)] at H; exact H
    clear H
    have H := H1
    clear H1
    replace H := Option.bind_eq_some_iff.mp H
    obtain ⟨⟨t223, t224⟩, A50, H⟩ := H
    replace H : ((spec_E8Point.f k l1).bind fun bt226 => ((impl_PointText.f k t223 t224).bind fun t229 => ((impl_ReadPoint.f t229).bind fun bt230 => ((impl_AngleText.f k t224).bind fun bt234 => ((impl_ReadAngle.f k bt234.1).bind fun bt236 => (if bt230.2.2 = true then (if (!(bt230.1 == t223) || (!(bt230.2.1 == t224))) = true then (laws_FnPoints.j0 k true t223 t224 bt226.1 bt226.2) else (if bt234.2 = 0 then (if bt236.2 = true then (laws_FnPoints.j0 k (bt236.1 != t224) t223 t224 bt226.1 bt226.2) else (laws_FnPoints.j0 k true t223 t224 bt226.1 bt226.2)) else (laws_FnPoints.j0 k true t223 t224 bt226.1 bt226.2))) else (laws_FnPoints.j0 k true t223 t224 bt226.1 bt226.2))))))) = some r := H
    have A5 := Aside0.mk A50
    clear A50
    replace H := Option.bind_eq_some_iff.mp H
    obtain ⟨⟨t226, t227⟩, A60, H⟩ := H
    replace H : ((impl_PointText.f k t223 t224).bind fun t229 => ((impl_ReadPoint.f t229).bind fun bt230 => ((impl_AngleText.f k t224).bind fun bt234 => ((impl_ReadAngle.f k bt234.1).bind fun bt236 => (if bt230.2.2 = true then (if (!(bt230.1 == t223) || (!(bt230.2.1 == t224))) = true then (laws_FnPoints.j0 k true t223 t224 t226 t227) else (if bt234.2 = 0 then (if bt236.2 = true then (laws_FnPoints.j0 k (bt236.1 != t224) t223 t224 t226 t227) else (laws_FnPoints.j0 k true t223 t224 t226 t227)) else (laws_FnPoints.j0 k true t223 t224 t226 t227))) else (laws_FnPoints.j0 k true t223 t224 t226 t227)))))) = some r := H
    have A6 := Aside0.mk A60
    clear A60
    replace H := Option.bind_eq_some_iff.mp H
    obtain ⟨t229, A70, H⟩ := H
    replace H : ((impl_ReadPoint.f t229).bind fun bt230 => ((impl_AngleText.f k t224).bind fun bt234 => ((impl_ReadAngle.f k bt234.1).bind fun bt236 => (if bt230.2.2 = true then (if (!(bt230.1 == t223) || (!(bt230.2.1 == t224))) = true then (laws_FnPoints.j0 k true t223 t224 t226 t227) else (if bt234.2 = 0 then (if bt236.2 = true then (laws_FnPoints.j0 k (bt236.1 != t224) t223 t224 t226 t227) else (laws_FnPoints.j0 k true t223 t224 t226 t227)) else (laws_FnPoints.j0 k true t223 t224 t226 t227))) else (laws_FnPoints.j0 k true t223 t224 t226 t227))))) = some r := H
    have A7 := Aside0.mk A70
    clear A70
    replace H := Option.bind_eq_some_iff.mp H
    obtain ⟨⟨t230, t231, t232⟩, A80, H⟩ := H
    replace H : ((impl_AngleText.f k t224).bind fun bt234 => ((impl_ReadAngle.f k bt234.1).bind fun bt236 => (if t232 = true then (if (!(t230 == t223) || (!(t231 == t224))) = true then (laws_FnPoints.j0 k true t223 t224 t226 t227) else (if bt234.2 = 0 then (if bt236.2 = true then (laws_FnPoints.j0 k (bt236.1 != t224) t223 t224 t226 t227) else (laws_FnPoints.j0 k true t223 t224 t226 t227)) else (laws_FnPoints.j0 k true t223 t224 t226 t227))) else (laws_FnPoints.j0 k true t223 t224 t226 t227)))) = some r := H
    have A8 := Aside0.mk A80
    clear A80
    replace H := Option.bind_eq_some_iff.mp H
    obtain ⟨⟨t234, t235⟩, A90, H⟩ := H
    replace H : ((impl_ReadAngle.f k t234).bind fun bt236 => (if t232 = true then (if (!(t230 == t223) || (!(t231 == t224))) = true then (laws_FnPoints.j0 k true t223 t224 t226 t227) else (if t235 = 0 then (if bt236.2 = true then (laws_FnPoints.j0 k (bt236.1 != t224) t223 t224 t226 t227) else (laws_FnPoints.j0 k true t223 t224 t226 t227)) else (laws_FnPoints.j0 k true t223 t224 t226 t227))) else (laws_FnPoints.j0 k true t223 t224 t226 t227))) = some r := H
    have A9 := Aside0.mk A90
    clear A90
    replace H := Option.bind_eq_some_iff.mp H
    obtain ⟨⟨t236, t237⟩, A100, H⟩ := H
    replace H : (if t232 = true then (if (!(t230 == t223) || (!(t231 == t224))) = true then (laws_FnPoints.j0 k true t223 t224 t226 t227) else (if t235 = 0 then (if t237 = true then (laws_FnPoints.j0 k (t236 != t224) t223 t224 t226 t227) else (laws_FnPoints.j0 k true t223 t224 t226 t227)) else (laws_FnPoints.j0 k true t223 t224 t226 t227))) else (laws_FnPoints.j0 k true t223 t224 t226 t227)) = some r := H
    have A10 := Aside0.mk A100
    clear A100
    have HC11 := Aside0.mk H
    clear H
    go_enter Tryz.func4, Tryz.ntmps4
    go_upto_region 8 with (first | ((with_reducible refine gate_callee (f := 20) rfl ?_); refine goesL_ (some 28) rfl rfl Tryz.func20 (by kernel_rfl) rfl #[.slice A0 l0.length c0, .slice A1 l1.length c1] rfl (by (try simp only [List.map_toArray, List.map_cons, List.map_nil]); first | done | rfl | (simp only [List.length_drop, List.length_take]; rfl)) ?_; (with_reducible refine (laws_d8Long.calls _ _ l0 _ _ l1 false _ ?side1 ?side2 ?side3 ?side4 A3.out).mono ?_); (case side1 => repeat (first | exact HR0.out | (with_reducible refine Kd.C_alloc ?_ _) | (with_reducible refine Kd.C_drewN ?_ _) | (with_reducible refine Kd.C_drew ?_))); (case side2 => exact HC0.out); (case side3 => repeat (first | exact HR1.out | (with_reducible refine Kd.C_alloc ?_ _) | (with_reducible refine Kd.C_drewN ?_ _) | (with_reducible refine Kd.C_drew ?_))); (case side4 => exact HC1.out); rintro e w' ⟨rfl, ⟨nd, rfl⟩⟩; refine ⟨_, rfl, ?_⟩) | ((with_reducible refine gate_callee (f := 21) rfl ?_); refine goesL_ (some 30) rfl rfl Tryz.func21 (by kernel_rfl) rfl #[.slice A0 l0.length c0] rfl (by (try simp only [List.map_toArray, List.map_cons, List.map_nil]); first | done | rfl | (simp only [List.length_drop, List.length_take]; rfl)) ?_; (with_reducible refine (spec_E8Point.calls k _ _ l0 t223 t224 _ ?side1 ?side2 A5.out).mono ?_); (case side1 => repeat (first | exact HR0.out | (with_reducible refine Kd.C_alloc ?_ _) | (with_reducible refine Kd.C_drewN ?_ _) | (with_reducible refine Kd.C_drew ?_))); (case side2 => exact HC0.out); rintro e w12 ⟨rfl, hb⟩; refine ⟨_, rfl, ?_⟩; replace HB := Aside0.mk (below_step (b0 HB.out) hb); (try clear hb); (try clear hb2); (try clear hk); (try clear hi)) | ((with_reducible refine gate_dst (N := 5) rfl ?_); refine box_event ?hg (N := 5) ?hd (cs := #[.int .i64 0, .int .i64 0]) (t := 28) ?hr ?_; (case hd => rfl); (case hg => rfl); (case hr => first | (go_simp; done) | (go_simp; rfl)); intro gb225 hg w13 hbox hb; have BK225 := Aside0.mk (hbox); have GW225 := Aside0.mk ((by rw [hg]; exact (below_size (b0 HB.out)) : w.heap.size ≤ gb225)); have GE225 := Aside0.mk ((by rw [hg]; exact (below_size (b0 HB.out)) : w.heap.size ≤ gb225)); replace HB := Aside0.mk (below_step (b0 HB.out) hb); clear hb hbox hg; have hcz14_0 : w13.cell? ⟨gb225, 0, none⟩ = some (.int .i64 0) := (blk_cell BK225.out 0).trans rfl; have hcz14_1 : w13.cell? ⟨gb225, 1, none⟩ = some (.int .i64 0) := (blk_cell BK225.out 1).trans rfl; have hfz14_0 := blk_frozen BK225.out 0; have hfz14_1 := blk_frozen BK225.out 1) | ((with_reducible refine gate_callee (f := 21) rfl ?_); refine goesL_ (some 32) rfl rfl Tryz.func21 (by kernel_rfl) rfl #[.slice A1 l1.length c1] rfl (by (try simp only [List.map_toArray, List.map_cons, List.map_nil]); first | done | rfl | (simp only [List.length_drop, List.length_take]; rfl)) ?_; (with_reducible refine (spec_E8Point.calls k _ _ l1 t226 t227 _ ?side1 ?side2 A6.out).mono ?_); (case side1 => exact Kd.C_below HR1.out (bq HB.out (.c GE225.out .n))); (case side2 => exact HC1.out); rintro e w15 ⟨rfl, hb⟩; refine ⟨_, rfl, ?_⟩; replace BK225 := Aside0.mk (blk_below (g := gb225) (o := .cells #[.int .i64 t223, .int .i64 t224] 28 (0, 0)) (by refine hp ?_; refine blk_put (cs := #[.int .i64 t223, .int .i64 0]) ?_ 1 _ rfl; refine hp ?_; refine blk_put (cs := #[.int .i64 0, .int .i64 0]) ?_ 0 _ rfl; exact h0 BK225.out) hb); replace HB := Aside0.mk (below_step (bq HB.out (.c GE225.out .n)) hb); (try clear hb); (try clear hb2); (try clear hk); (try clear hi)) | ((with_reducible refine gate_dst (N := 6) rfl ?_); refine box_event ?hg (N := 6) ?hd (cs := #[.int .i64 0, .int .i64 0]) (t := 28) ?hr ?_; (case hd => rfl); (case hg => rfl); (case hr => first | (go_simp; done) | (go_simp; rfl)); intro gb228 hg w16 hbox hb; have BK228 := Aside0.mk (hbox); have GW228 := Aside0.mk ((by rw [hg]; exact (below_size (bq HB.out (.c GE225.out .n))) : w.heap.size ≤ gb228)); have GE228 := Aside0.mk ((by rw [hg]; exact (below_size (bq HB.out (.c GE225.out .n))) : w.heap.size ≤ gb228)); replace HB := Aside0.mk (below_step (bq HB.out (.c GE225.out .n)) hb); have NB225_228 := Aside0.mk ((by rw [hg]; exact Nat.ne_of_lt (blk_lt (g := gb225) (o := .cells #[.int .i64 t223, .int .i64 t224] 28 (0, 0)) (h0 BK225.out)) : gb225 ≠ gb228)); have NB228_225 := Aside0.mk ((by rw [hg]; exact Nat.ne_of_gt (blk_lt (g := gb225) (o := .cells #[.int .i64 t223, .int .i64 t224] 28 (0, 0)) (h0 BK225.out)) : gb228 ≠ gb225)); replace BK225 := Aside0.mk (blk_below (h0 BK225.out) hb); clear hb hbox hg; have hnb17 := NB228_225.out; have hnc17 := NB225_228.out; have hcz18_0 : w16.cell? ⟨gb228, 0, none⟩ = some (.int .i64 0) := (blk_cell BK228.out 0).trans rfl; have hcz18_1 : w16.cell? ⟨gb228, 1, none⟩ = some (.int .i64 0) := (blk_cell BK228.out 1).trans rfl; have hfz18_0 := blk_frozen BK228.out 0; have hfz18_1 := blk_frozen BK228.out 1; have hcz19_0 : w16.cell? ⟨gb225, 0, none⟩ = some (.int .i64 t223) := (blk_cell BK225.out 0).trans rfl; have hcz19_1 : w16.cell? ⟨gb225, 1, none⟩ = some (.int .i64 t224) := (blk_cell BK225.out 1).trans rfl; have hfz19_0 := blk_frozen BK225.out 0; have hfz19_1 := blk_frozen BK225.out 1) | ((with_reducible refine gate_callee (f := 23) rfl ?_); refine goesL_ (some 35) rfl rfl Tryz.func23 (by kernel_rfl) rfl #[.agg #[.int .i64 t223, .int .i64 t224]] rfl (by (try simp only [List.map_toArray, List.map_cons, List.map_nil]); first | done | rfl | (simp only [List.length_drop, List.length_take]; rfl)) ?_; (with_reducible refine (impl_PointText.calls k t223 t224 t229 _ (okd_ hO_ (bq HB.out (.c GE225.out (.c GE228.out .n)))) A7.out).mono ?_); rintro e w20 ⟨rfl, hb⟩; refine ⟨_, rfl, ?_⟩; replace BK225 := Aside0.mk (blk_below (g := gb225) (o := .cells #[.int .i64 t223, .int .i64 t224] 28 (0, 0)) (hq BK225.out (.c NB225_228.out .n)) hb); replace BK228 := Aside0.mk (blk_below (g := gb228) (o := .cells #[.int .i64 t226, .int .i64 t227] 28 (0, 0)) (by refine hp ?_; refine blk_put (cs := #[.int .i64 t226, .int .i64 0]) ?_ 1 _ rfl; refine hp ?_; refine blk_put (cs := #[.int .i64 0, .int .i64 0]) ?_ 0 _ rfl; exact h0 BK228.out) hb); replace HB := Aside0.mk (below_step (bq HB.out (.c GE225.out (.c GE228.out .n))) hb); (try clear hb); (try clear hb2); (try clear hk); (try clear hi)) | ((with_reducible refine gate_callee (f := 22) rfl ?_); refine goesL_ (some 36) rfl rfl Tryz.func22 (by kernel_rfl) rfl #[.string t229] rfl (by (try simp only [List.map_toArray, List.map_cons, List.map_nil]); first | done | rfl | (simp only [List.length_drop, List.length_take]; rfl)) ?_; (with_reducible refine (impl_ReadPoint.calls t229 t230 t231 t232 _ (okd_ hO_ (bq HB.out (.c GE225.out (.c GE228.out .n)))) A8.out).mono ?_); rintro e w21 ⟨rfl, hb⟩; refine ⟨_, rfl, ?_⟩; replace BK225 := Aside0.mk (blk_below (h0 BK225.out) hb); replace BK228 := Aside0.mk (blk_below (h0 BK228.out) hb); replace HB := Aside0.mk (below_step (bq HB.out (.c GE225.out (.c GE228.out .n))) hb); (try clear hb); (try clear hb2); (try clear hk); (try clear hi)) | ((with_reducible refine gate_dst (N := 7) rfl ?_); refine box_event ?hg (N := 7) ?hd (cs := #[.int .i64 0, .int .i64 0]) (t := 28) ?hr ?_; (case hd => rfl); (case hg => rfl); (case hr => first | (go_simp; done) | (go_simp; rfl)); intro gb233 hg w22 hbox hb; have BK233 := Aside0.mk (hbox); have GW233 := Aside0.mk ((by rw [hg]; exact (below_size (bq HB.out (.c GE225.out (.c GE228.out .n)))) : w.heap.size ≤ gb233)); have GE233 := Aside0.mk ((by rw [hg]; exact (below_size (bq HB.out (.c GE225.out (.c GE228.out .n)))) : w.heap.size ≤ gb233)); replace HB := Aside0.mk (below_step (bq HB.out (.c GE225.out (.c GE228.out .n))) hb); have NB225_233 := Aside0.mk ((by rw [hg]; exact Nat.ne_of_lt (blk_lt (g := gb225) (o := .cells #[.int .i64 t223, .int .i64 t224] 28 (0, 0)) (h0 BK225.out)) : gb225 ≠ gb233)); have NB233_225 := Aside0.mk ((by rw [hg]; exact Nat.ne_of_gt (blk_lt (g := gb225) (o := .cells #[.int .i64 t223, .int .i64 t224] 28 (0, 0)) (h0 BK225.out)) : gb233 ≠ gb225)); replace BK225 := Aside0.mk (blk_below (h0 BK225.out) hb); have NB228_233 := Aside0.mk ((by rw [hg]; exact Nat.ne_of_lt (blk_lt (g := gb228) (o := .cells #[.int .i64 t226, .int .i64 t227] 28 (0, 0)) (h0 BK228.out)) : gb228 ≠ gb233)); have NB233_228 := Aside0.mk ((by rw [hg]; exact Nat.ne_of_gt (blk_lt (g := gb228) (o := .cells #[.int .i64 t226, .int .i64 t227] 28 (0, 0)) (h0 BK228.out)) : gb233 ≠ gb228)); replace BK228 := Aside0.mk (blk_below (h0 BK228.out) hb); clear hb hbox hg; have hnb23 := NB233_225.out; have hnc23 := NB225_233.out; have hnb24 := NB233_228.out; have hnc24 := NB228_233.out; have hcz25_0 : w22.cell? ⟨gb233, 0, none⟩ = some (.int .i64 0) := (blk_cell BK233.out 0).trans rfl; have hcz25_1 : w22.cell? ⟨gb233, 1, none⟩ = some (.int .i64 0) := (blk_cell BK233.out 1).trans rfl; have hfz25_0 := blk_frozen BK233.out 0; have hfz25_1 := blk_frozen BK233.out 1; have hcz26_0 : w22.cell? ⟨gb225, 0, none⟩ = some (.int .i64 t223) := (blk_cell BK225.out 0).trans rfl; have hcz26_1 : w22.cell? ⟨gb225, 1, none⟩ = some (.int .i64 t224) := (blk_cell BK225.out 1).trans rfl; have hfz26_0 := blk_frozen BK225.out 0; have hfz26_1 := blk_frozen BK225.out 1) | ((with_reducible refine gate_callee (f := 24) rfl ?_); refine goesL_ (some 42) rfl rfl Tryz.func24 (by kernel_rfl) rfl #[.int .i64 t224] rfl (by (try simp only [List.map_toArray, List.map_cons, List.map_nil]); first | done | rfl | (simp only [List.length_drop, List.length_take]; rfl)) ?_; (with_reducible refine (impl_AngleText.calls k t224 t234 t235 _ (okd_ hO_ (bq HB.out (.c GE225.out (.c GE228.out (.c GE233.out .n))))) A9.out).mono ?_); rintro e w27 ⟨rfl, hb⟩; refine ⟨_, rfl, ?_⟩; replace BK225 := Aside0.mk (blk_below (g := gb225) (o := .cells #[.int .i64 t223, .int .i64 t224] 28 (0, 0)) (hq BK225.out (.c NB225_233.out .n)) hb); replace BK228 := Aside0.mk (blk_below (g := gb228) (o := .cells #[.int .i64 t226, .int .i64 t227] 28 (0, 0)) (hq BK228.out (.c NB228_233.out .n)) hb); replace BK233 := Aside0.mk (blk_below (g := gb233) (o := .cells #[.int .i64 t230, .int .i64 t231] 28 (0, 0)) (by refine hp ?_; refine blk_put (cs := #[.int .i64 t230, .int .i64 0]) ?_ 1 _ rfl; refine hp ?_; refine blk_put (cs := #[.int .i64 0, .int .i64 0]) ?_ 0 _ rfl; exact h0 BK233.out) hb); replace HB := Aside0.mk (below_step (bq HB.out (.c GE225.out (.c GE228.out (.c GE233.out .n)))) hb); (try clear hb); (try clear hb2); (try clear hk); (try clear hi)) | ((with_reducible refine gate_callee (f := 25) rfl ?_); refine goesL_ (some 47) rfl rfl Tryz.func25 (by kernel_rfl) rfl #[.string t234] rfl (by (try simp only [List.map_toArray, List.map_cons, List.map_nil]); first | done | rfl | (simp only [List.length_drop, List.length_take]; rfl)) ?_; (with_reducible refine (impl_ReadAngle.calls k t234 t236 t237 _ (okd_ hO_ (bq HB.out (.c GE225.out (.c GE228.out (.c GE233.out .n))))) A10.out).mono ?_); rintro e w28 ⟨rfl, hb⟩; refine ⟨_, rfl, ?_⟩; replace BK225 := Aside0.mk (blk_below (h0 BK225.out) hb); replace BK228 := Aside0.mk (blk_below (h0 BK228.out) hb); replace BK233 := Aside0.mk (blk_below (h0 BK233.out) hb); replace HB := Aside0.mk (below_step (bq HB.out (.c GE225.out (.c GE228.out (.c GE233.out .n)))) hb); (try clear hb); (try clear hb2); (try clear hk); (try clear hi)))
    (try simp only [Act.put, List.setIfInBounds_toArray, List.set_cons_zero, List.set_cons_succ])
    go_cut [70] (fun v70 wc => ∃ (kq : Nat) (x70_10 : Bool), v70 = .bool x70_10 ∧ Aside0 (laws_FnPoints.j0 kq x70_10 t223 t224 t226 t227 = some r) ∧ Aside0 (kq ≤ k) ∧ Aside0 (wc.heap[gb225]? = some (.cells #[.int .i64 t223, .int .i64 t224] 28 (0, 0))) ∧ Aside0 (wc.heap[gb228]? = some (.cells #[.int .i64 t226, .int .i64 t227] 28 (0, 0))) ∧ Aside0 (wc.heap[gb233]? = some (.cells #[.int .i64 t230, .int .i64 t231] 28 (0, 0))) ∧ Aside0 (Below w.heap.size w wc))
    case first =>
      have H := HC11.out
      clear HC11
      by_cases c29 : t232 = true
      · as_aux_lemma =>
        subst c29
        have H1 : (if (!(t230 == t223) || (!(t231 == t224))) = true then (laws_FnPoints.j0 k true t223 t224 t226 t227) else (if t235 = 0 then (if t237 = true then (laws_FnPoints.j0 k (t236 != t224) t223 t224 t226 t227) else (laws_FnPoints.j0 k true t223 t224 t226 t227)) else (laws_FnPoints.j0 k true t223 t224 t226 t227))) = some r := by rw [if_pos rfl] at H; exact H
        clear H
        have H := H1
        clear H1
        by_cases c30 : (!(t230 == t223) || (!(t231 == t224))) = true
        · rw [if_pos c30] at H
          have c30b0 : (!(t230 == t223) || (!(t231 == t224))) = true := c30
          clear c30
          (first | rw [c30b0] | (simp only [i64_w, i32_w]; rw [c30b0]) | skip)
          have H' := Aside0.mk H
          clear H
          have hnb31 := NB233_225.out
          have hnc31 := NB225_233.out
          have hnb32 := NB233_228.out
          have hnc32 := NB228_233.out
          have hcz33_0 : w28.cell? ⟨gb233, 0, none⟩ = some (.int .i64 t230) := (blk_cell BK233.out 0).trans rfl
          have hcz33_1 : w28.cell? ⟨gb233, 1, none⟩ = some (.int .i64 t231) := (blk_cell BK233.out 1).trans rfl
          have hfz33_0 := blk_frozen BK233.out 0
          have hfz33_1 := blk_frozen BK233.out 1
          have hnb34 := NB225_228.out
          have hnc34 := NB228_225.out
          have hcz35_0 : w28.cell? ⟨gb225, 0, none⟩ = some (.int .i64 t223) := (blk_cell BK225.out 0).trans rfl
          have hcz35_1 : w28.cell? ⟨gb225, 1, none⟩ = some (.int .i64 t224) := (blk_cell BK225.out 1).trans rfl
          have hfz35_0 := blk_frozen BK225.out 0
          have hfz35_1 := blk_frozen BK225.out 1
          go_wp2
          go_meet
          case rel => exact ⟨_, (true), er, H', ⟨by first | omega | exact Nat.le_refl _⟩, ⟨h0 BK225.out⟩, ⟨h0 BK228.out⟩, ⟨h0 BK233.out⟩, ⟨bq HB.out (.c GE225.out (.c GE228.out (.c GE233.out .n)))⟩⟩
        · as_aux_lemma =>
          rw [if_neg c30] at H
          have c30b0 : (!(t230 == t223) || (!(t231 == t224))) = false := by simpa using c30
          clear c30
          (first | rw [c30b0] | (simp only [i64_w, i32_w]; rw [c30b0]) | skip)
          by_cases c36 : t235 = 0
          · as_aux_lemma =>
            rw [if_pos c36] at H
            have c36b0 : (t235 == 0) = true := beq_iff_eq.mpr c36
            have c36b1 : (t235 != 0) = false := bne_eq_false_iff_eq.mpr c36
            clear c36
            by_cases c37 : t237 = true
            · subst c37
              have H1 : (laws_FnPoints.j0 k (t236 != t224) t223 t224 t226 t227) = some r := by rw [if_pos rfl] at H; exact H
              clear H
              have H := H1
              clear H1
              have H' := Aside0.mk H
              clear H
              have hnb38 := NB233_225.out
              have hnc38 := NB225_233.out
              have hnb39 := NB233_228.out
              have hnc39 := NB228_233.out
              have hcz40_0 : w28.cell? ⟨gb233, 0, none⟩ = some (.int .i64 t230) := (blk_cell BK233.out 0).trans rfl
              have hcz40_1 : w28.cell? ⟨gb233, 1, none⟩ = some (.int .i64 t231) := (blk_cell BK233.out 1).trans rfl
              have hfz40_0 := blk_frozen BK233.out 0
              have hfz40_1 := blk_frozen BK233.out 1
              have hnb41 := NB225_228.out
              have hnc41 := NB228_225.out
              have hcz42_0 : w28.cell? ⟨gb225, 0, none⟩ = some (.int .i64 t223) := (blk_cell BK225.out 0).trans rfl
              have hcz42_1 : w28.cell? ⟨gb225, 1, none⟩ = some (.int .i64 t224) := (blk_cell BK225.out 1).trans rfl
              have hfz42_0 := blk_frozen BK225.out 0
              have hfz42_1 := blk_frozen BK225.out 1
              go_wp2
              go_meet
              case rel => exact ⟨_, ((t236 != t224)), er, H', ⟨by first | omega | exact Nat.le_refl _⟩, ⟨h0 BK225.out⟩, ⟨h0 BK228.out⟩, ⟨h0 BK233.out⟩, ⟨bq HB.out (.c GE225.out (.c GE228.out (.c GE233.out .n)))⟩⟩
            · replace c37 := Bool.eq_false_iff.mpr c37
              subst c37
              have H1 : (laws_FnPoints.j0 k true t223 t224 t226 t227) = some r := by rw [if_neg (show ¬ (false = true) by decide)] at H; exact H
              clear H
              have H := H1
              clear H1
              have H' := Aside0.mk H
              clear H
              have hnb43 := NB233_225.out
              have hnc43 := NB225_233.out
              have hnb44 := NB233_228.out
              have hnc44 := NB228_233.out
              have hcz45_0 : w28.cell? ⟨gb233, 0, none⟩ = some (.int .i64 t230) := (blk_cell BK233.out 0).trans rfl
              have hcz45_1 : w28.cell? ⟨gb233, 1, none⟩ = some (.int .i64 t231) := (blk_cell BK233.out 1).trans rfl
              have hfz45_0 := blk_frozen BK233.out 0
              have hfz45_1 := blk_frozen BK233.out 1
              have hnb46 := NB225_228.out
              have hnc46 := NB228_225.out
              have hcz47_0 : w28.cell? ⟨gb225, 0, none⟩ = some (.int .i64 t223) := (blk_cell BK225.out 0).trans rfl
              have hcz47_1 : w28.cell? ⟨gb225, 1, none⟩ = some (.int .i64 t224) := (blk_cell BK225.out 1).trans rfl
              have hfz47_0 := blk_frozen BK225.out 0
              have hfz47_1 := blk_frozen BK225.out 1
              go_wp2
              go_meet
              case rel => exact ⟨_, (true), er, H', ⟨by first | omega | exact Nat.le_refl _⟩, ⟨h0 BK225.out⟩, ⟨h0 BK228.out⟩, ⟨h0 BK233.out⟩, ⟨bq HB.out (.c GE225.out (.c GE228.out (.c GE233.out .n)))⟩⟩
          · rw [if_neg c36] at H
            have c36b0 : (t235 == 0) = false := beq_eq_false_iff_ne.mpr c36
            have c36b1 : (t235 != 0) = true := bne_iff_ne.mpr c36
            have H' := Aside0.mk H
            clear H
            have hnb48 := NB233_225.out
            have hnc48 := NB225_233.out
            have hnb49 := NB233_228.out
            have hnc49 := NB228_233.out
            have hcz50_0 : w28.cell? ⟨gb233, 0, none⟩ = some (.int .i64 t230) := (blk_cell BK233.out 0).trans rfl
            have hcz50_1 : w28.cell? ⟨gb233, 1, none⟩ = some (.int .i64 t231) := (blk_cell BK233.out 1).trans rfl
            have hfz50_0 := blk_frozen BK233.out 0
            have hfz50_1 := blk_frozen BK233.out 1
            have hnb51 := NB225_228.out
            have hnc51 := NB228_225.out
            have hcz52_0 : w28.cell? ⟨gb225, 0, none⟩ = some (.int .i64 t223) := (blk_cell BK225.out 0).trans rfl
            have hcz52_1 : w28.cell? ⟨gb225, 1, none⟩ = some (.int .i64 t224) := (blk_cell BK225.out 1).trans rfl
            have hfz52_0 := blk_frozen BK225.out 0
            have hfz52_1 := blk_frozen BK225.out 1
            go_wp2
            go_meet
            case rel => exact ⟨_, (true), er, H', ⟨by first | omega | exact Nat.le_refl _⟩, ⟨h0 BK225.out⟩, ⟨h0 BK228.out⟩, ⟨h0 BK233.out⟩, ⟨bq HB.out (.c GE225.out (.c GE228.out (.c GE233.out .n)))⟩⟩
      · replace c29 := Bool.eq_false_iff.mpr c29
        subst c29
        have H1 : (laws_FnPoints.j0 k true t223 t224 t226 t227) = some r := by rw [if_neg (show ¬ (false = true) by decide)] at H; exact H
        clear H
        have H := H1
        clear H1
        have H' := Aside0.mk H
        clear H
        go_wp2
        go_meet
        case rel => exact ⟨_, (true), er, H', ⟨by first | omega | exact Nat.le_refl _⟩, ⟨h0 BK225.out⟩, ⟨h0 BK228.out⟩, ⟨h0 BK233.out⟩, ⟨bq HB.out (.c GE225.out (.c GE228.out (.c GE233.out .n)))⟩⟩
    case rest =>
      clear HC11
      try clear c1
      try clear c2
      try clear p2
      try clear c3
      try clear c4
      try clear c5
      try clear c17
      try clear c20
      try clear c21
      try clear c22
      try clear c23
      try clear c24
      try clear c25
      try clear c29
      try clear c30
      try clear c30b0
      try clear c31
      try clear c32
      try clear c34
      try clear c36
      try clear c36b0
      try clear c36b1
      try clear c37
      try clear c38
      try clear c39
      try clear c41
      try clear c43
      try clear c44
      try clear c46
      try clear c48
      try clear c49
      try clear c51
      try clear hcz14_0
      try clear hcz14_1
      try clear hcz18_0
      try clear hcz18_1
      try clear hcz19_0
      try clear hcz19_1
      try clear hcz25_0
      try clear hcz25_1
      try clear hcz26_0
      try clear hcz26_1
      try clear hcz33_0
      try clear hcz33_1
      try clear hcz35_0
      try clear hcz35_1
      try clear hcz40_0
      try clear hcz40_1
      try clear hcz42_0
      try clear hcz42_1
      try clear hcz45_0
      try clear hcz45_1
      try clear hcz47_0
      try clear hcz47_1
      try clear hcz50_0
      try clear hcz50_1
      try clear hcz52_0
      try clear hcz52_1
      try clear hfz14_0
      try clear hfz14_1
      try clear hfz18_0
      try clear hfz18_1
      try clear hfz19_0
      try clear hfz19_1
      try clear hfz25_0
      try clear hfz25_1
      try clear hfz26_0
      try clear hfz26_1
      try clear hfz33_0
      try clear hfz33_1
      try clear hfz35_0
      try clear hfz35_1
      try clear hfz40_0
      try clear hfz40_1
      try clear hfz42_0
      try clear hfz42_1
      try clear hfz45_0
      try clear hfz45_1
      try clear hfz47_0
      try clear hfz47_1
      try clear hfz50_0
      try clear hfz50_1
      try clear hfz52_0
      try clear hfz52_1
      obtain ⟨kq, x70_10, rfl, HA, HJ10, BK225, BK228, BK233, HB⟩ := hcut
      cases kq with
      | zero => exact absurd HA.out (by simp [laws_FnPoints.j0])
      | succ kj10 =>
        have H := HA.out
        clear HA
        simp only [laws_FnPoints.j0] at H
        by_cases c53 : x70_10 = true
        · subst c53
          have H1 : (some false) = some r := by rw [if_pos rfl] at H; exact H
          clear H
          have H := H1
          clear H1
          exact absurd ((Option.some.inj H).trans HR_.out) Bool.false_ne_true
        · as_aux_lemma =>
          replace c53 := Bool.eq_false_iff.mpr c53
          subst c53
          have H1 : ((impl_LonBetween.f t223 t224 t226 t227).bind fun bt238 => ((impl_LonBetween.f t226 t227 t223 t224).bind fun bt240 => (if bt238.2 = 0 then (if bt240.2 = 0 then (if bt238.1 = (wrap64 (-bt240.1)) then ((impl_WrapLon.f (wrap64 (t224 + bt238.1))).bind fun t242 => (laws_FnPoints.j1 kj10 (t242 != t227) t223 t224)) else (if (wrap64 (bt238.1 + bt240.1)) = 3600000000 then ((impl_WrapLon.f (wrap64 (t224 + bt238.1))).bind fun t243 => (laws_FnPoints.j1 kj10 (t243 != t227) t223 t224)) else (laws_FnPoints.j1 kj10 true t223 t224))) else (laws_FnPoints.j1 kj10 true t223 t224)) else (laws_FnPoints.j1 kj10 true t223 t224)))) = some r := by rw [if_neg (show ¬ (false = true) by decide)] at H; exact H
          clear H
          have H := H1
          clear H1
          replace H := Option.bind_eq_some_iff.mp H
          obtain ⟨⟨t238, t239⟩, A540, H⟩ := H
          replace H : ((impl_LonBetween.f t226 t227 t223 t224).bind fun bt240 => (if t239 = 0 then (if bt240.2 = 0 then (if t238 = (wrap64 (-bt240.1)) then ((impl_WrapLon.f (wrap64 (t224 + t238))).bind fun t242 => (laws_FnPoints.j1 kj10 (t242 != t227) t223 t224)) else (if (wrap64 (t238 + bt240.1)) = 3600000000 then ((impl_WrapLon.f (wrap64 (t224 + t238))).bind fun t243 => (laws_FnPoints.j1 kj10 (t243 != t227) t223 t224)) else (laws_FnPoints.j1 kj10 true t223 t224))) else (laws_FnPoints.j1 kj10 true t223 t224)) else (laws_FnPoints.j1 kj10 true t223 t224))) = some r := H
          have A54 := Aside0.mk A540
          clear A540
          replace H := Option.bind_eq_some_iff.mp H
          obtain ⟨⟨t240, t241⟩, A550, H⟩ := H
          replace H : (if t239 = 0 then (if t241 = 0 then (if t238 = (wrap64 (-t240)) then ((impl_WrapLon.f (wrap64 (t224 + t238))).bind fun t242 => (laws_FnPoints.j1 kj10 (t242 != t227) t223 t224)) else (if (wrap64 (t238 + t240)) = 3600000000 then ((impl_WrapLon.f (wrap64 (t224 + t238))).bind fun t243 => (laws_FnPoints.j1 kj10 (t243 != t227) t223 t224)) else (laws_FnPoints.j1 kj10 true t223 t224))) else (laws_FnPoints.j1 kj10 true t223 t224)) else (laws_FnPoints.j1 kj10 true t223 t224)) = some r := H
          have A55 := Aside0.mk A550
          clear A550
          have HC56 := Aside0.mk H
          clear H
          have hnb57 := NB225_228.out
          have hnc57 := NB228_225.out
          have hnb58 := NB225_233.out
          have hnc58 := NB233_225.out
          have hcz59_0 : wc.cell? ⟨gb225, 0, none⟩ = some (.int .i64 t223) := (blk_cell BK225.out 0).trans rfl
          have hcz59_1 : wc.cell? ⟨gb225, 1, none⟩ = some (.int .i64 t224) := (blk_cell BK225.out 1).trans rfl
          have hfz59_0 := blk_frozen BK225.out 0
          have hfz59_1 := blk_frozen BK225.out 1
          have hnb60 := NB228_233.out
          have hnc60 := NB233_228.out
          have hcz61_0 : wc.cell? ⟨gb228, 0, none⟩ = some (.int .i64 t226) := (blk_cell BK228.out 0).trans rfl
          have hcz61_1 : wc.cell? ⟨gb228, 1, none⟩ = some (.int .i64 t227) := (blk_cell BK228.out 1).trans rfl
          have hfz61_0 := blk_frozen BK228.out 0
          have hfz61_1 := blk_frozen BK228.out 1
          go_upto_region 12 with (first | ((with_reducible refine gate_callee (f := 26) rfl ?_); refine goesL_ (some 74) rfl rfl Tryz.func26 (by kernel_rfl) rfl #[.agg #[.int .i64 t223, .int .i64 t224], .agg #[.int .i64 t226, .int .i64 t227]] rfl (by (try simp only [List.map_toArray, List.map_cons, List.map_nil]); first | done | rfl | (simp only [List.length_drop, List.length_take]; rfl)) ?_; (with_reducible refine (impl_LonBetween.calls t223 t224 t226 t227 t238 t239 _ A54.out).mono ?_); rintro e w62 ⟨rfl, hb⟩; refine ⟨_, rfl, ?_⟩; replace BK225 := Aside0.mk (blk_below (h0 BK225.out) hb); replace BK228 := Aside0.mk (blk_below (h0 BK228.out) hb); replace BK233 := Aside0.mk (blk_below (h0 BK233.out) hb); replace HB := Aside0.mk (below_step (bq HB.out (.c GE225.out (.c GE228.out (.c GE233.out .n)))) hb); (try clear hb); (try clear hb2); (try clear hk); (try clear hi); have hcz63_0 : w62.cell? ⟨gb228, 0, none⟩ = some (.int .i64 t226) := (blk_cell BK228.out 0).trans rfl; have hcz63_1 : w62.cell? ⟨gb228, 1, none⟩ = some (.int .i64 t227) := (blk_cell BK228.out 1).trans rfl; have hfz63_0 := blk_frozen BK228.out 0; have hfz63_1 := blk_frozen BK228.out 1; have hcz64_0 : w62.cell? ⟨gb225, 0, none⟩ = some (.int .i64 t223) := (blk_cell BK225.out 0).trans rfl; have hcz64_1 : w62.cell? ⟨gb225, 1, none⟩ = some (.int .i64 t224) := (blk_cell BK225.out 1).trans rfl; have hfz64_0 := blk_frozen BK225.out 0; have hfz64_1 := blk_frozen BK225.out 1) | ((with_reducible refine gate_callee (f := 26) rfl ?_); refine goesL_ (some 80) rfl rfl Tryz.func26 (by kernel_rfl) rfl #[.agg #[.int .i64 t226, .int .i64 t227], .agg #[.int .i64 t223, .int .i64 t224]] rfl (by (try simp only [List.map_toArray, List.map_cons, List.map_nil]); first | done | rfl | (simp only [List.length_drop, List.length_take]; rfl)) ?_; (with_reducible refine (impl_LonBetween.calls t226 t227 t223 t224 t240 t241 _ A55.out).mono ?_); rintro e w65 ⟨rfl, hb⟩; refine ⟨_, rfl, ?_⟩; replace BK225 := Aside0.mk (blk_below (h0 BK225.out) hb); replace BK228 := Aside0.mk (blk_below (h0 BK228.out) hb); replace BK233 := Aside0.mk (blk_below (h0 BK233.out) hb); replace HB := Aside0.mk (below_step (bq HB.out (.c GE225.out (.c GE228.out (.c GE233.out .n)))) hb); (try clear hb); (try clear hb2); (try clear hk); (try clear hi)))
          (try simp only [Act.put, List.setIfInBounds_toArray, List.set_cons_zero, List.set_cons_succ])
          go_cut [110] (fun v110 wc => ∃ (kq : Nat) (x110_55 : Bool), v110 = .bool x110_55 ∧ Aside0 (laws_FnPoints.j1 kq x110_55 t223 t224 = some r) ∧ Aside0 (kq ≤ kj10) ∧ Aside0 (wc.heap[gb225]? = some (.cells #[.int .i64 t223, .int .i64 t224] 28 (0, 0))) ∧ Aside0 (wc.heap[gb228]? = some (.cells #[.int .i64 t226, .int .i64 t227] 28 (0, 0))) ∧ Aside0 (wc.heap[gb233]? = some (.cells #[.int .i64 t230, .int .i64 t231] 28 (0, 0))) ∧ Aside0 (Below w.heap.size w wc))
          case first =>
            have H := HC56.out
            clear HC56
            by_cases c66 : t239 = 0
            · as_aux_lemma =>
              rw [if_pos c66] at H
              have c66b0 : (t239 == 0) = true := beq_iff_eq.mpr c66
              have c66b1 : (t239 != 0) = false := bne_eq_false_iff_eq.mpr c66
              clear c66
              (first | rw [c66b0] | (simp only [i64_w, i32_w]; rw [c66b0]) | skip)
              by_cases c67 : t241 = 0
              · as_aux_lemma =>
                rw [if_pos c67] at H
                have c67b0 : (t241 == 0) = true := beq_iff_eq.mpr c67
                have c67b1 : (t241 != 0) = false := bne_eq_false_iff_eq.mpr c67
                clear c67
                by_cases c68 : t238 = (wrap64 (-t240))
                · as_aux_lemma =>
                  rw [if_pos c68] at H
                  have c68b0 : (t238 == (wrap64 (-t240))) = true := beq_iff_eq.mpr c68
                  have c68b1 : (t238 != (wrap64 (-t240))) = false := bne_eq_false_iff_eq.mpr c68
                  clear c68
                  replace H := Option.bind_eq_some_iff.mp H
                  obtain ⟨t242, A690, H⟩ := H
                  replace H : (laws_FnPoints.j1 kj10 (t242 != t227) t223 t224) = some r := H
                  have A69 := Aside0.mk A690
                  clear A690
                  have H' := Aside0.mk H
                  clear H
                  try go_wp2
                  replace BK225 := Aside0.mk (blk_drew BK225.out)
                  replace BK228 := Aside0.mk (blk_drew BK228.out)
                  replace BK233 := Aside0.mk (blk_drew BK233.out)
                  replace HB := Aside0.mk (below_drew1 HB.out)
                  refine start_ (n := 28) (S := fun w' => w'.cell? ⟨gb225, 0, none⟩ = some (.int .i64 t223) ∧ w'.cell? ⟨gb225, 1, none⟩ = some (.int .i64 t224) ∧ w'.cell? ⟨gb228, 0, none⟩ = some (.int .i64 t226) ∧ w'.cell? ⟨gb228, 1, none⟩ = some (.int .i64 t227)) (ds := []) #[false, false, false, false, false, false, false, false, false, false, false, false, false, false, false, false, false, false, false, false, false, false, false, false, false, false, false, false] (by kernel_rfl) rfl rfl ⟨(blk_cell BK225.out 0).trans rfl, (blk_cell BK225.out 1).trans rfl, (blk_cell BK228.out 0).trans rfl, (blk_cell BK228.out 1).trans rfl⟩ (fun hHeld => ?_); refine with_tabW laws_FnPoints.tab12 laws_FnPoints.bits12 (fun HT_ HW_ => ?_)
                  generalize w65.drew = w70 at BK225 BK228 BK233 HB hHeld ⊢
                  refine pA 0 (some 83) HT_ ?_
                  refine pA 1 (some 84) HT_ ?_
                  refine pA 2 (some 85) HT_ ?_
                  refine pA 3 (some 86) HT_ ?_
                  refine pA 4 (some 87) HT_ ?_
                  refine pA 5 (some 88) HT_ ?_
                  refine pA 6 (some 89) HT_ ?_
                  refine pA 7 (some 90) HT_ ?_
                  refine pA 8 (some 91) HT_ ?_
                  refine pA 9 (some 92) HT_ ?_
                  refine pA 10 (some 93) HT_ ?_
                  refine pA 11 (some 94) HT_ ?_
                  refine pB 12 (some 95) HT_ ?_
                  refine pB 13 (some 96) HT_ ?_
                  refine pB 14 (some 97) HT_ ?_
                  refine pB 15 (some 98) HT_ ?_
                  refine pA 16 (some 99) HT_ ?_
                  refine pA 17 (some 100) HT_ ?_
                  refine pA 18 (some 101) HT_ ?_
                  refine pA 19 (some 102) HT_ ?_
                  refine pA 21 (some 104) HT_ ?_
                  refine pA 24 (some 107) HT_ ?_
                  refine tA 20 (some 103) HT_ HW_ hHeld ?_
                  refine pA 22 (some 105) HT_ ?_
                  refine tA 25 (some 108) HT_ HW_ hHeld ?_
                  refine oA 23 (some 106) HT_ fun K hK => ?_
                  refine gs Tryz.func27 #[.int .i64 (wrap64 (t224 + t238))] rfl ?_
                  with_reducible refine (impl_WrapLon.calls (wrap64 (t224 + t238)) t242 _ A69.out).mono ?_
                  rintro e w71 ⟨rfl, hb⟩
                  refine ⟨_, rfl, ?_⟩
                  replace BK225 := Aside0.mk (blk_below (h0 BK225.out) hb)
                  replace BK228 := Aside0.mk (blk_below (h0 BK228.out) hb)
                  replace BK233 := Aside0.mk (blk_below (h0 BK233.out) hb)
                  replace HB := Aside0.mk (below_step (bq HB.out (.c GE225.out (.c GE228.out (.c GE233.out .n)))) hb)
                  (try clear hb)
                  (try clear hb2)
                  (try clear hk)
                  (try clear hi)
                  refine hK.out _ _ ⟨(blk_cell BK225.out 0).trans rfl, (blk_cell BK225.out 1).trans rfl, (blk_cell BK228.out 0).trans rfl, (blk_cell BK228.out 1).trans rfl⟩ (fun hHeld => ?_)
                  clear hK K
                  refine nA (some 106) ?_
                  refine pA 26 (some 109) HT_ ?_
                  refine pA 27 (some 110) HT_ ?_
                  refine done_ (done_of HT_.out (by kernel_rfl)) ?_
                  try go_wp2
                  go_meet
                  case rel => exact ⟨_, ((t242 != t227)), er, H', ⟨by have := HJ10.out; first | omega | exact Nat.le_refl _⟩, ⟨h0 BK225.out⟩, ⟨h0 BK228.out⟩, ⟨h0 BK233.out⟩, ⟨bq HB.out (.c GE225.out (.c GE228.out (.c GE233.out .n)))⟩⟩
                · as_aux_lemma =>
                  rw [if_neg c68] at H
                  have c68b0 : (t238 == (wrap64 (-t240))) = false := beq_eq_false_iff_ne.mpr c68
                  have c68b1 : (t238 != (wrap64 (-t240))) = true := bne_iff_ne.mpr c68
                  by_cases c72 : (wrap64 (t238 + t240)) = 3600000000
                  · as_aux_lemma =>
                    rw [if_pos c72] at H
                    have c72b0 : ((wrap64 (t238 + t240)) == 3600000000) = true := beq_iff_eq.mpr c72
                    have c72b1 : ((wrap64 (t238 + t240)) != 3600000000) = false := bne_eq_false_iff_eq.mpr c72
                    clear c72
                    replace H := Option.bind_eq_some_iff.mp H
                    obtain ⟨t243, A730, H⟩ := H
                    replace H : (laws_FnPoints.j1 kj10 (t243 != t227) t223 t224) = some r := H
                    have A73 := Aside0.mk A730
                    clear A730
                    have H' := Aside0.mk H
                    clear H
                    try go_wp2
                    replace BK225 := Aside0.mk (blk_drew BK225.out)
                    replace BK228 := Aside0.mk (blk_drew BK228.out)
                    replace BK233 := Aside0.mk (blk_drew BK233.out)
                    replace HB := Aside0.mk (below_drew1 HB.out)
                    refine start_ (n := 28) (S := fun w' => w'.cell? ⟨gb225, 0, none⟩ = some (.int .i64 t223) ∧ w'.cell? ⟨gb225, 1, none⟩ = some (.int .i64 t224) ∧ w'.cell? ⟨gb228, 0, none⟩ = some (.int .i64 t226) ∧ w'.cell? ⟨gb228, 1, none⟩ = some (.int .i64 t227)) (ds := []) #[false, false, false, false, false, false, false, false, false, false, false, false, false, false, false, false, false, false, false, false, false, false, false, false, false, false, false, false] (by kernel_rfl) rfl rfl ⟨(blk_cell BK225.out 0).trans rfl, (blk_cell BK225.out 1).trans rfl, (blk_cell BK228.out 0).trans rfl, (blk_cell BK228.out 1).trans rfl⟩ (fun hHeld => ?_); refine with_tabW laws_FnPoints.tab12 laws_FnPoints.bits12 (fun HT_ HW_ => ?_)
                    generalize w65.drew = w74 at BK225 BK228 BK233 HB hHeld ⊢
                    refine pA 0 (some 83) HT_ ?_
                    refine pA 1 (some 84) HT_ ?_
                    refine pA 2 (some 85) HT_ ?_
                    refine pA 3 (some 86) HT_ ?_
                    refine pA 4 (some 87) HT_ ?_
                    refine pA 5 (some 88) HT_ ?_
                    refine pA 6 (some 89) HT_ ?_
                    refine pA 7 (some 90) HT_ ?_
                    refine pA 8 (some 91) HT_ ?_
                    refine pA 9 (some 92) HT_ ?_
                    refine pA 10 (some 93) HT_ ?_
                    refine pA 11 (some 94) HT_ ?_
                    refine pA 12 (some 95) HT_ ?_
                    refine pA 13 (some 96) HT_ ?_
                    refine pA 14 (some 97) HT_ ?_
                    refine pA 15 (some 98) HT_ ?_
                    refine pA 16 (some 99) HT_ ?_
                    refine pA 17 (some 100) HT_ ?_
                    refine pA 18 (some 101) HT_ ?_
                    refine pA 19 (some 102) HT_ ?_
                    refine pA 21 (some 104) HT_ ?_
                    refine pA 24 (some 107) HT_ ?_
                    refine tA 20 (some 103) HT_ HW_ hHeld ?_
                    refine pA 22 (some 105) HT_ ?_
                    refine tA 25 (some 108) HT_ HW_ hHeld ?_
                    refine oA 23 (some 106) HT_ fun K hK => ?_
                    refine gs Tryz.func27 #[.int .i64 (wrap64 (t224 + t238))] rfl ?_
                    with_reducible refine (impl_WrapLon.calls (wrap64 (t224 + t238)) t243 _ A73.out).mono ?_
                    rintro e w75 ⟨rfl, hb⟩
                    refine ⟨_, rfl, ?_⟩
                    replace BK225 := Aside0.mk (blk_below (h0 BK225.out) hb)
                    replace BK228 := Aside0.mk (blk_below (h0 BK228.out) hb)
                    replace BK233 := Aside0.mk (blk_below (h0 BK233.out) hb)
                    replace HB := Aside0.mk (below_step (bq HB.out (.c GE225.out (.c GE228.out (.c GE233.out .n)))) hb)
                    (try clear hb)
                    (try clear hb2)
                    (try clear hk)
                    (try clear hi)
                    refine hK.out _ _ ⟨(blk_cell BK225.out 0).trans rfl, (blk_cell BK225.out 1).trans rfl, (blk_cell BK228.out 0).trans rfl, (blk_cell BK228.out 1).trans rfl⟩ (fun hHeld => ?_)
                    clear hK K
                    refine nA (some 106) ?_
                    refine pA 26 (some 109) HT_ ?_
                    refine pA 27 (some 110) HT_ ?_
                    refine done_ (done_of HT_.out (by kernel_rfl)) ?_
                    try go_wp2
                    go_meet
                    case rel => exact ⟨_, ((t243 != t227)), er, H', ⟨by have := HJ10.out; first | omega | exact Nat.le_refl _⟩, ⟨h0 BK225.out⟩, ⟨h0 BK228.out⟩, ⟨h0 BK233.out⟩, ⟨bq HB.out (.c GE225.out (.c GE228.out (.c GE233.out .n)))⟩⟩
                  · as_aux_lemma =>
                    rw [if_neg c72] at H
                    have c72b0 : ((wrap64 (t238 + t240)) == 3600000000) = false := beq_eq_false_iff_ne.mpr c72
                    have c72b1 : ((wrap64 (t238 + t240)) != 3600000000) = true := bne_iff_ne.mpr c72
                    have H' := Aside0.mk H
                    clear H
                    try go_wp2
                    replace BK225 := Aside0.mk (blk_drew BK225.out)
                    replace BK228 := Aside0.mk (blk_drew BK228.out)
                    replace BK233 := Aside0.mk (blk_drew BK233.out)
                    replace HB := Aside0.mk (below_drew1 HB.out)
                    refine start_ (n := 28) (S := fun w' => True) (ds := []) #[false, false, false, false, false, false, false, false, false, false, false, false, false, false, false, false, false, false, false, false, false, false, false, false, false, false, false, false] (by kernel_rfl) rfl rfl trivial (fun hHeld => ?_); refine with_tabW laws_FnPoints.tab12 laws_FnPoints.bits12 (fun HT_ HW_ => ?_)
                    generalize w65.drew = w76 at BK225 BK228 BK233 HB hHeld ⊢
                    refine pA 0 (some 83) HT_ ?_
                    refine pA 1 (some 84) HT_ ?_
                    refine pA 2 (some 85) HT_ ?_
                    refine pA 3 (some 86) HT_ ?_
                    refine pA 4 (some 87) HT_ ?_
                    refine pA 5 (some 88) HT_ ?_
                    refine pA 6 (some 89) HT_ ?_
                    refine pA 7 (some 90) HT_ ?_
                    refine pA 8 (some 91) HT_ ?_
                    refine pA 9 (some 92) HT_ ?_
                    refine pA 10 (some 93) HT_ ?_
                    refine pA 11 (some 94) HT_ ?_
                    refine pA 12 (some 95) HT_ ?_
                    refine pA 13 (some 96) HT_ ?_
                    refine pA 14 (some 97) HT_ ?_
                    refine pA 15 (some 98) HT_ ?_
                    refine pA 16 (some 99) HT_ ?_
                    refine pA 17 (some 100) HT_ ?_
                    refine pA 18 (some 101) HT_ ?_
                    refine pB 19 (some 102) HT_ ?_
                    refine pB 20 (some 103) HT_ ?_
                    refine pB 21 (some 104) HT_ ?_
                    refine pB 22 (some 105) HT_ ?_
                    refine pB 23 (some 106) HT_ ?_
                    refine pB 24 (some 107) HT_ ?_
                    refine pB 25 (some 108) HT_ ?_
                    refine pB 26 (some 109) HT_ ?_
                    refine pA 27 (some 110) HT_ ?_
                    refine done_ (done_of HT_.out (by kernel_rfl)) ?_
                    try go_wp2
                    go_meet
                    case rel => exact ⟨_, (true), er, H', ⟨by have := HJ10.out; first | omega | exact Nat.le_refl _⟩, ⟨h0 BK225.out⟩, ⟨h0 BK228.out⟩, ⟨h0 BK233.out⟩, ⟨bq HB.out (.c GE225.out (.c GE228.out (.c GE233.out .n)))⟩⟩
              · as_aux_lemma =>
                rw [if_neg c67] at H
                have c67b0 : (t241 == 0) = false := beq_eq_false_iff_ne.mpr c67
                have c67b1 : (t241 != 0) = true := bne_iff_ne.mpr c67
                have H' := Aside0.mk H
                clear H
                try go_wp2
                replace BK225 := Aside0.mk (blk_drew BK225.out)
                replace BK228 := Aside0.mk (blk_drew BK228.out)
                replace BK233 := Aside0.mk (blk_drew BK233.out)
                replace HB := Aside0.mk (below_drew1 HB.out)
                refine start_ (n := 28) (S := fun w' => True) (ds := []) #[false, false, false, false, false, false, false, false, false, false, false, false, false, false, false, false, false, false, false, false, false, false, false, false, false, false, false, false] (by kernel_rfl) rfl rfl trivial (fun hHeld => ?_); refine with_tabW laws_FnPoints.tab12 laws_FnPoints.bits12 (fun HT_ HW_ => ?_)
                generalize w65.drew = w77 at BK225 BK228 BK233 HB hHeld ⊢
                refine pA 0 (some 83) HT_ ?_
                refine pA 1 (some 84) HT_ ?_
                refine pA 2 (some 85) HT_ ?_
                refine pA 3 (some 86) HT_ ?_
                refine pA 4 (some 87) HT_ ?_
                refine pA 5 (some 88) HT_ ?_
                refine pA 6 (some 89) HT_ ?_
                refine pB 7 (some 90) HT_ ?_
                refine pB 8 (some 91) HT_ ?_
                refine pB 9 (some 92) HT_ ?_
                refine pB 10 (some 93) HT_ ?_
                refine pB 11 (some 94) HT_ ?_
                refine pB 12 (some 95) HT_ ?_
                refine pB 13 (some 96) HT_ ?_
                refine pB 14 (some 97) HT_ ?_
                refine pB 15 (some 98) HT_ ?_
                refine pB 16 (some 99) HT_ ?_
                refine pA 17 (some 100) HT_ ?_
                refine pA 18 (some 101) HT_ ?_
                refine pB 19 (some 102) HT_ ?_
                refine pB 20 (some 103) HT_ ?_
                refine pB 21 (some 104) HT_ ?_
                refine pB 22 (some 105) HT_ ?_
                refine pB 23 (some 106) HT_ ?_
                refine pB 24 (some 107) HT_ ?_
                refine pB 25 (some 108) HT_ ?_
                refine pB 26 (some 109) HT_ ?_
                refine pA 27 (some 110) HT_ ?_
                refine done_ (done_of HT_.out (by kernel_rfl)) ?_
                try go_wp2
                go_meet
                case rel => exact ⟨_, (true), er, H', ⟨by have := HJ10.out; first | omega | exact Nat.le_refl _⟩, ⟨h0 BK225.out⟩, ⟨h0 BK228.out⟩, ⟨h0 BK233.out⟩, ⟨bq HB.out (.c GE225.out (.c GE228.out (.c GE233.out .n)))⟩⟩
            · as_aux_lemma =>
              rw [if_neg c66] at H
              have c66b0 : (t239 == 0) = false := beq_eq_false_iff_ne.mpr c66
              have c66b1 : (t239 != 0) = true := bne_iff_ne.mpr c66
              (first | rw [c66b0] | (simp only [i64_w, i32_w]; rw [c66b0]) | skip)
              have H' := Aside0.mk H
              clear H
              try go_wp2
              replace BK225 := Aside0.mk (blk_drew BK225.out)
              replace BK228 := Aside0.mk (blk_drew BK228.out)
              replace BK233 := Aside0.mk (blk_drew BK233.out)
              replace HB := Aside0.mk (below_drew1 HB.out)
              refine start_ (n := 28) (S := fun w' => True) (ds := []) #[false, false, false, false, false, false, false, false, false, false, false, false, false, false, false, false, false, false, false, false, false, false, false, false, false, false, false, false] (by kernel_rfl) rfl rfl trivial (fun hHeld => ?_); refine with_tabW laws_FnPoints.tab12 laws_FnPoints.bits12 (fun HT_ HW_ => ?_)
              generalize w65.drew = w78 at BK225 BK228 BK233 HB hHeld ⊢
              refine pA 0 (some 83) HT_ ?_
              refine pA 1 (some 84) HT_ ?_
              refine pA 2 (some 85) HT_ ?_
              refine pB 3 (some 86) HT_ ?_
              refine pB 4 (some 87) HT_ ?_
              refine pA 5 (some 88) HT_ ?_
              refine pA 6 (some 89) HT_ ?_
              refine pB 7 (some 90) HT_ ?_
              refine pB 8 (some 91) HT_ ?_
              refine pB 9 (some 92) HT_ ?_
              refine pB 10 (some 93) HT_ ?_
              refine pB 11 (some 94) HT_ ?_
              refine pB 12 (some 95) HT_ ?_
              refine pB 13 (some 96) HT_ ?_
              refine pB 14 (some 97) HT_ ?_
              refine pB 15 (some 98) HT_ ?_
              refine pB 16 (some 99) HT_ ?_
              refine pA 17 (some 100) HT_ ?_
              refine pA 18 (some 101) HT_ ?_
              refine pB 19 (some 102) HT_ ?_
              refine pB 20 (some 103) HT_ ?_
              refine pB 21 (some 104) HT_ ?_
              refine pB 22 (some 105) HT_ ?_
              refine pB 23 (some 106) HT_ ?_
              refine pB 24 (some 107) HT_ ?_
              refine pB 25 (some 108) HT_ ?_
              refine pB 26 (some 109) HT_ ?_
              refine pA 27 (some 110) HT_ ?_
              refine done_ (done_of HT_.out (by kernel_rfl)) ?_
              try go_wp2
              go_meet
              case rel => exact ⟨_, (true), er, H', ⟨by have := HJ10.out; first | omega | exact Nat.le_refl _⟩, ⟨h0 BK225.out⟩, ⟨h0 BK228.out⟩, ⟨h0 BK233.out⟩, ⟨bq HB.out (.c GE225.out (.c GE228.out (.c GE233.out .n)))⟩⟩
          case rest =>
            clear HC56
            try clear p2
            try clear c6
            try clear p6
            try clear c7
            try clear p64
            try clear c66
            try clear c66b0
            try clear c66b1
            try clear c67
            try clear c67b0
            try clear c67b1
            try clear c72
            try clear c72b0
            try clear c72b1
            obtain ⟨kq, x110_55, rfl, HA, HJ55, BK225, BK228, BK233, HB⟩ := hcut
            cases kq with
            | zero => exact absurd HA.out (by simp [laws_FnPoints.j1])
            | succ kj55 =>
              have H := HA.out
              clear HA
              simp only [laws_FnPoints.j1] at H
              by_cases c79 : x110_55 = true
              · subst c79
                have H1 : (some false) = some r := by rw [if_pos rfl] at H; exact H
                clear H
                have H := H1
                clear H1
                exact absurd ((Option.some.inj H).trans HR_.out) Bool.false_ne_true
              · as_aux_lemma =>
                replace c79 := Bool.eq_false_iff.mpr c79
                subst c79
                have H1 : ((impl_Antipode.f t223 t224).bind fun bt244 => ((impl_Antipode.f bt244.1 bt244.2.1).bind fun bt248 => ((impl_SamePlace.f t223 t224 bt248.1 bt248.2.1).bind fun bt252 => ((impl_LatOf.f t223 t224).bind fun bt254 => ((impl_LonOf.f t223 t224).bind fun bt256 => ((impl_MiddlePoint.f bt254.1 bt254.2 bt256.1 bt256.2).bind fun bt258 => (if bt244.2.2 = 0 then (if bt248.2.2 = 0 then (if bt252.2 = 0 then (if bt252.1 = true then (if bt258.2.2.2 = 0 then (if bt258.2.2.1 ≥ 0 then (if bt258.2.2.1 ≤ 2 then ((laws_d8Size.f (wrap64 (bt258.1 - t223))).bind fun t263 => (if t263 ≤ bt258.2.2.1 then ((impl_WrapLon.f (wrap64 (bt258.2.1 - t224))).bind fun t264 => ((laws_d8Size.f t264).bind fun t265 => (if t265 ≤ bt258.2.2.1 then ((impl_LatOf.f t223 t224).bind fun bt266 => ((impl_LonOf.f t223 t224).bind fun bt268 => ((impl_AtPoint.f bt266.1 bt266.2 bt268.1 bt268.2 t223 t224).bind fun t270 => (some t270)))) else (some false)))) else (some false))) else (some false)) else (some false)) else (some false)) else (some false)) else (some false)) else (some false)) else (some false)))))))) = some r := by rw [if_neg (show ¬ (false = true) by decide)] at H; exact H
                clear H
                have H := H1
                clear H1
                replace H := Option.bind_eq_some_iff.mp H
                obtain ⟨⟨t244, t245, t246⟩, A800, H⟩ := H
                replace H : ((impl_Antipode.f t244 t245).bind fun bt248 => ((impl_SamePlace.f t223 t224 bt248.1 bt248.2.1).bind fun bt252 => ((impl_LatOf.f t223 t224).bind fun bt254 => ((impl_LonOf.f t223 t224).bind fun bt256 => ((impl_MiddlePoint.f bt254.1 bt254.2 bt256.1 bt256.2).bind fun bt258 => (if t246 = 0 then (if bt248.2.2 = 0 then (if bt252.2 = 0 then (if bt252.1 = true then (if bt258.2.2.2 = 0 then (if bt258.2.2.1 ≥ 0 then (if bt258.2.2.1 ≤ 2 then ((laws_d8Size.f (wrap64 (bt258.1 - t223))).bind fun t263 => (if t263 ≤ bt258.2.2.1 then ((impl_WrapLon.f (wrap64 (bt258.2.1 - t224))).bind fun t264 => ((laws_d8Size.f t264).bind fun t265 => (if t265 ≤ bt258.2.2.1 then ((impl_LatOf.f t223 t224).bind fun bt266 => ((impl_LonOf.f t223 t224).bind fun bt268 => ((impl_AtPoint.f bt266.1 bt266.2 bt268.1 bt268.2 t223 t224).bind fun t270 => (some t270)))) else (some false)))) else (some false))) else (some false)) else (some false)) else (some false)) else (some false)) else (some false)) else (some false)) else (some false))))))) = some r := H
                have A80 := Aside0.mk A800
                clear A800
                replace H := Option.bind_eq_some_iff.mp H
                obtain ⟨⟨t248, t249, t250⟩, A810, H⟩ := H
                replace H : ((impl_SamePlace.f t223 t224 t248 t249).bind fun bt252 => ((impl_LatOf.f t223 t224).bind fun bt254 => ((impl_LonOf.f t223 t224).bind fun bt256 => ((impl_MiddlePoint.f bt254.1 bt254.2 bt256.1 bt256.2).bind fun bt258 => (if t246 = 0 then (if t250 = 0 then (if bt252.2 = 0 then (if bt252.1 = true then (if bt258.2.2.2 = 0 then (if bt258.2.2.1 ≥ 0 then (if bt258.2.2.1 ≤ 2 then ((laws_d8Size.f (wrap64 (bt258.1 - t223))).bind fun t263 => (if t263 ≤ bt258.2.2.1 then ((impl_WrapLon.f (wrap64 (bt258.2.1 - t224))).bind fun t264 => ((laws_d8Size.f t264).bind fun t265 => (if t265 ≤ bt258.2.2.1 then ((impl_LatOf.f t223 t224).bind fun bt266 => ((impl_LonOf.f t223 t224).bind fun bt268 => ((impl_AtPoint.f bt266.1 bt266.2 bt268.1 bt268.2 t223 t224).bind fun t270 => (some t270)))) else (some false)))) else (some false))) else (some false)) else (some false)) else (some false)) else (some false)) else (some false)) else (some false)) else (some false)))))) = some r := H
                have A81 := Aside0.mk A810
                clear A810
                replace H := Option.bind_eq_some_iff.mp H
                obtain ⟨⟨t252, t253⟩, A820, H⟩ := H
                replace H : ((impl_LatOf.f t223 t224).bind fun bt254 => ((impl_LonOf.f t223 t224).bind fun bt256 => ((impl_MiddlePoint.f bt254.1 bt254.2 bt256.1 bt256.2).bind fun bt258 => (if t246 = 0 then (if t250 = 0 then (if t253 = 0 then (if t252 = true then (if bt258.2.2.2 = 0 then (if bt258.2.2.1 ≥ 0 then (if bt258.2.2.1 ≤ 2 then ((laws_d8Size.f (wrap64 (bt258.1 - t223))).bind fun t263 => (if t263 ≤ bt258.2.2.1 then ((impl_WrapLon.f (wrap64 (bt258.2.1 - t224))).bind fun t264 => ((laws_d8Size.f t264).bind fun t265 => (if t265 ≤ bt258.2.2.1 then ((impl_LatOf.f t223 t224).bind fun bt266 => ((impl_LonOf.f t223 t224).bind fun bt268 => ((impl_AtPoint.f bt266.1 bt266.2 bt268.1 bt268.2 t223 t224).bind fun t270 => (some t270)))) else (some false)))) else (some false))) else (some false)) else (some false)) else (some false)) else (some false)) else (some false)) else (some false)) else (some false))))) = some r := H
                have A82 := Aside0.mk A820
                clear A820
                replace H := Option.bind_eq_some_iff.mp H
                obtain ⟨⟨t254, t255⟩, A830, H⟩ := H
                replace H : ((impl_LonOf.f t223 t224).bind fun bt256 => ((impl_MiddlePoint.f t254 t255 bt256.1 bt256.2).bind fun bt258 => (if t246 = 0 then (if t250 = 0 then (if t253 = 0 then (if t252 = true then (if bt258.2.2.2 = 0 then (if bt258.2.2.1 ≥ 0 then (if bt258.2.2.1 ≤ 2 then ((laws_d8Size.f (wrap64 (bt258.1 - t223))).bind fun t263 => (if t263 ≤ bt258.2.2.1 then ((impl_WrapLon.f (wrap64 (bt258.2.1 - t224))).bind fun t264 => ((laws_d8Size.f t264).bind fun t265 => (if t265 ≤ bt258.2.2.1 then ((impl_LatOf.f t223 t224).bind fun bt266 => ((impl_LonOf.f t223 t224).bind fun bt268 => ((impl_AtPoint.f bt266.1 bt266.2 bt268.1 bt268.2 t223 t224).bind fun t270 => (some t270)))) else (some false)))) else (some false))) else (some false)) else (some false)) else (some false)) else (some false)) else (some false)) else (some false)) else (some false)))) = some r := H
                have A83 := Aside0.mk A830
                clear A830
                replace H := Option.bind_eq_some_iff.mp H
                obtain ⟨⟨t256, t257⟩, A840, H⟩ := H
                replace H : ((impl_MiddlePoint.f t254 t255 t256 t257).bind fun bt258 => (if t246 = 0 then (if t250 = 0 then (if t253 = 0 then (if t252 = true then (if bt258.2.2.2 = 0 then (if bt258.2.2.1 ≥ 0 then (if bt258.2.2.1 ≤ 2 then ((laws_d8Size.f (wrap64 (bt258.1 - t223))).bind fun t263 => (if t263 ≤ bt258.2.2.1 then ((impl_WrapLon.f (wrap64 (bt258.2.1 - t224))).bind fun t264 => ((laws_d8Size.f t264).bind fun t265 => (if t265 ≤ bt258.2.2.1 then ((impl_LatOf.f t223 t224).bind fun bt266 => ((impl_LonOf.f t223 t224).bind fun bt268 => ((impl_AtPoint.f bt266.1 bt266.2 bt268.1 bt268.2 t223 t224).bind fun t270 => (some t270)))) else (some false)))) else (some false))) else (some false)) else (some false)) else (some false)) else (some false)) else (some false)) else (some false)) else (some false))) = some r := H
                have A84 := Aside0.mk A840
                clear A840
                replace H := Option.bind_eq_some_iff.mp H
                obtain ⟨⟨t258, t259, t260, t261⟩, A850, H⟩ := H
                replace H : (if t246 = 0 then (if t250 = 0 then (if t253 = 0 then (if t252 = true then (if t261 = 0 then (if t260 ≥ 0 then (if t260 ≤ 2 then ((laws_d8Size.f (wrap64 (t258 - t223))).bind fun t263 => (if t263 ≤ t260 then ((impl_WrapLon.f (wrap64 (t259 - t224))).bind fun t264 => ((laws_d8Size.f t264).bind fun t265 => (if t265 ≤ t260 then ((impl_LatOf.f t223 t224).bind fun bt266 => ((impl_LonOf.f t223 t224).bind fun bt268 => ((impl_AtPoint.f bt266.1 bt266.2 bt268.1 bt268.2 t223 t224).bind fun t270 => (some t270)))) else (some false)))) else (some false))) else (some false)) else (some false)) else (some false)) else (some false)) else (some false)) else (some false)) else (some false)) = some r := H
                have A85 := Aside0.mk A850
                clear A850
                by_cases c86 : t246 = 0
                · as_aux_lemma =>
                  rw [if_pos c86] at H
                  have c86b0 : (t246 == 0) = true := beq_iff_eq.mpr c86
                  have c86b1 : (t246 != 0) = false := bne_eq_false_iff_eq.mpr c86
                  clear c86
                  by_cases c87 : t250 = 0
                  · as_aux_lemma =>
                    rw [if_pos c87] at H
                    have c87b0 : (t250 == 0) = true := beq_iff_eq.mpr c87
                    have c87b1 : (t250 != 0) = false := bne_eq_false_iff_eq.mpr c87
                    clear c87
                    by_cases c88 : t253 = 0
                    · as_aux_lemma =>
                      rw [if_pos c88] at H
                      have c88b0 : (t253 == 0) = true := beq_iff_eq.mpr c88
                      have c88b1 : (t253 != 0) = false := bne_eq_false_iff_eq.mpr c88
                      clear c88
                      by_cases c89 : t252 = true
                      · as_aux_lemma =>
                        subst c89
                        have H1 : (if t261 = 0 then (if t260 ≥ 0 then (if t260 ≤ 2 then ((laws_d8Size.f (wrap64 (t258 - t223))).bind fun t263 => (if t263 ≤ t260 then ((impl_WrapLon.f (wrap64 (t259 - t224))).bind fun t264 => ((laws_d8Size.f t264).bind fun t265 => (if t265 ≤ t260 then ((impl_LatOf.f t223 t224).bind fun bt266 => ((impl_LonOf.f t223 t224).bind fun bt268 => ((impl_AtPoint.f bt266.1 bt266.2 bt268.1 bt268.2 t223 t224).bind fun t270 => (some t270)))) else (some false)))) else (some false))) else (some false)) else (some false)) else (some false)) = some r := by rw [if_pos rfl] at H; exact H
                        clear H
                        have H := H1
                        clear H1
                        by_cases c90 : t261 = 0
                        · as_aux_lemma =>
                          rw [if_pos c90] at H
                          have c90b0 : (t261 == 0) = true := beq_iff_eq.mpr c90
                          have c90b1 : (t261 != 0) = false := bne_eq_false_iff_eq.mpr c90
                          clear c90
                          by_cases c91 : t260 ≥ 0
                          · as_aux_lemma =>
                            rw [if_pos c91] at H
                            have c91b0 : decide (0 ≤ t260) = true := decide_eq_true c91
                            clear c91
                            by_cases c92 : t260 ≤ 2
                            · as_aux_lemma =>
                              rw [if_pos c92] at H
                              have c92b0 : decide (t260 ≤ 2) = true := decide_eq_true c92
                              clear c92
                              replace H := Option.bind_eq_some_iff.mp H
                              obtain ⟨t263, A930, H⟩ := H
                              replace H : (if t263 ≤ t260 then ((impl_WrapLon.f (wrap64 (t259 - t224))).bind fun t264 => ((laws_d8Size.f t264).bind fun t265 => (if t265 ≤ t260 then ((impl_LatOf.f t223 t224).bind fun bt266 => ((impl_LonOf.f t223 t224).bind fun bt268 => ((impl_AtPoint.f bt266.1 bt266.2 bt268.1 bt268.2 t223 t224).bind fun t270 => (some t270)))) else (some false)))) else (some false)) = some r := H
                              have A93 := Aside0.mk A930
                              clear A930
                              by_cases c94 : t263 ≤ t260
                              · as_aux_lemma =>
                                rw [if_pos c94] at H
                                have c94b0 : decide (t263 ≤ t260) = true := decide_eq_true c94
                                clear c94
                                replace H := Option.bind_eq_some_iff.mp H
                                obtain ⟨t264, A950, H⟩ := H
                                replace H : ((laws_d8Size.f t264).bind fun t265 => (if t265 ≤ t260 then ((impl_LatOf.f t223 t224).bind fun bt266 => ((impl_LonOf.f t223 t224).bind fun bt268 => ((impl_AtPoint.f bt266.1 bt266.2 bt268.1 bt268.2 t223 t224).bind fun t270 => (some t270)))) else (some false))) = some r := H
                                have A95 := Aside0.mk A950
                                clear A950
                                replace H := Option.bind_eq_some_iff.mp H
                                obtain ⟨t265, A960, H⟩ := H
                                replace H : (if t265 ≤ t260 then ((impl_LatOf.f t223 t224).bind fun bt266 => ((impl_LonOf.f t223 t224).bind fun bt268 => ((impl_AtPoint.f bt266.1 bt266.2 bt268.1 bt268.2 t223 t224).bind fun t270 => (some t270)))) else (some false)) = some r := H
                                have A96 := Aside0.mk A960
                                clear A960
                                by_cases c97 : t265 ≤ t260
                                · as_aux_lemma =>
                                  rw [if_pos c97] at H
                                  have c97b0 : decide (t265 ≤ t260) = true := decide_eq_true c97
                                  clear c97
                                  replace H := Option.bind_eq_some_iff.mp H
                                  obtain ⟨⟨t266, t267⟩, A980, H⟩ := H
                                  replace H : ((impl_LonOf.f t223 t224).bind fun bt268 => ((impl_AtPoint.f t266 t267 bt268.1 bt268.2 t223 t224).bind fun t270 => (some t270))) = some r := H
                                  have A98 := Aside0.mk A980
                                  clear A980
                                  replace H := Option.bind_eq_some_iff.mp H
                                  obtain ⟨⟨t268, t269⟩, A990, H⟩ := H
                                  replace H : ((impl_AtPoint.f t266 t267 t268 t269 t223 t224).bind fun t270 => (some t270)) = some r := H
                                  have A99 := Aside0.mk A990
                                  clear A990
                                  replace H := Option.bind_eq_some_iff.mp H
                                  obtain ⟨t270, A1000, H⟩ := H
                                  replace H : (some t270) = some r := H
                                  have A100 := Aside0.mk A1000
                                  clear A1000
                                  obtain rfl := Option.some.inj H
                                  have hnb101 := NB225_228.out
                                  have hnc101 := NB228_225.out
                                  have hnb102 := NB225_233.out
                                  have hnc102 := NB233_225.out
                                  have hcz103_0 : wc.cell? ⟨gb225, 0, none⟩ = some (.int .i64 t223) := (blk_cell BK225.out 0).trans rfl
                                  have hcz103_1 : wc.cell? ⟨gb225, 1, none⟩ = some (.int .i64 t224) := (blk_cell BK225.out 1).trans rfl
                                  have hfz103_0 := blk_frozen BK225.out 0
                                  have hfz103_1 := blk_frozen BK225.out 1
                                  try go_wp2_with (first | ((with_reducible refine gate_callee (f := 28) rfl ?_); refine goesL_ (some 113) rfl rfl Tryz.func28 (by kernel_rfl) rfl #[.agg #[.int .i64 t223, .int .i64 t224]] rfl (by (try simp only [List.map_toArray, List.map_cons, List.map_nil]); first | done | rfl | (simp only [List.length_drop, List.length_take]; rfl)) ?_; (with_reducible refine (impl_Antipode.calls t223 t224 t244 t245 t246 _ A80.out).mono ?_); rintro e w104 ⟨rfl, hb⟩; refine ⟨_, rfl, ?_⟩; replace BK225 := Aside0.mk (blk_below (h0 BK225.out) hb); replace BK228 := Aside0.mk (blk_below (h0 BK228.out) hb); replace BK233 := Aside0.mk (blk_below (h0 BK233.out) hb); replace HB := Aside0.mk (below_step (bq HB.out (.c GE225.out (.c GE228.out (.c GE233.out .n)))) hb); (try clear hb); (try clear hb2); (try clear hk); (try clear hi)) | ((with_reducible refine gate_dst (N := 17) rfl ?_); refine box_event ?hg (N := 17) ?hd (cs := #[.int .i64 0, .int .i64 0]) (t := 28) ?hr ?_; (case hd => rfl); (case hg => rfl); (case hr => first | (go_simp; done) | (go_simp; rfl)); intro gb247 hg w105 hbox hb; have BK247 := Aside0.mk (hbox); have GW247 := Aside0.mk ((by rw [hg]; exact (below_size (bq HB.out (.c GE225.out (.c GE228.out (.c GE233.out .n))))) : w.heap.size ≤ gb247)); have GE247 := Aside0.mk ((by rw [hg]; exact (below_size (bq HB.out (.c GE225.out (.c GE228.out (.c GE233.out .n))))) : w.heap.size ≤ gb247)); replace HB := Aside0.mk (below_step (bq HB.out (.c GE225.out (.c GE228.out (.c GE233.out .n)))) hb); have NB225_247 := Aside0.mk ((by rw [hg]; exact Nat.ne_of_lt (blk_lt (g := gb225) (o := .cells #[.int .i64 t223, .int .i64 t224] 28 (0, 0)) (h0 BK225.out)) : gb225 ≠ gb247)); have NB247_225 := Aside0.mk ((by rw [hg]; exact Nat.ne_of_gt (blk_lt (g := gb225) (o := .cells #[.int .i64 t223, .int .i64 t224] 28 (0, 0)) (h0 BK225.out)) : gb247 ≠ gb225)); replace BK225 := Aside0.mk (blk_below (h0 BK225.out) hb); have NB228_247 := Aside0.mk ((by rw [hg]; exact Nat.ne_of_lt (blk_lt (g := gb228) (o := .cells #[.int .i64 t226, .int .i64 t227] 28 (0, 0)) (h0 BK228.out)) : gb228 ≠ gb247)); have NB247_228 := Aside0.mk ((by rw [hg]; exact Nat.ne_of_gt (blk_lt (g := gb228) (o := .cells #[.int .i64 t226, .int .i64 t227] 28 (0, 0)) (h0 BK228.out)) : gb247 ≠ gb228)); replace BK228 := Aside0.mk (blk_below (h0 BK228.out) hb); have NB233_247 := Aside0.mk ((by rw [hg]; exact Nat.ne_of_lt (blk_lt (g := gb233) (o := .cells #[.int .i64 t230, .int .i64 t231] 28 (0, 0)) (h0 BK233.out)) : gb233 ≠ gb247)); have NB247_233 := Aside0.mk ((by rw [hg]; exact Nat.ne_of_gt (blk_lt (g := gb233) (o := .cells #[.int .i64 t230, .int .i64 t231] 28 (0, 0)) (h0 BK233.out)) : gb247 ≠ gb233)); replace BK233 := Aside0.mk (blk_below (h0 BK233.out) hb); clear hb hbox hg; have hnb106 := NB247_225.out; have hnc106 := NB225_247.out; have hnb107 := NB247_228.out; have hnc107 := NB228_247.out; have hnb108 := NB247_233.out; have hnc108 := NB233_247.out; have hcz109_0 : w105.cell? ⟨gb247, 0, none⟩ = some (.int .i64 0) := (blk_cell BK247.out 0).trans rfl; have hcz109_1 : w105.cell? ⟨gb247, 1, none⟩ = some (.int .i64 0) := (blk_cell BK247.out 1).trans rfl; have hfz109_0 := blk_frozen BK247.out 0; have hfz109_1 := blk_frozen BK247.out 1) | ((with_reducible refine gate_callee (f := 28) rfl ?_); refine goesL_ (some 118) rfl rfl Tryz.func28 (by kernel_rfl) rfl #[.agg #[.int .i64 t244, .int .i64 t245]] rfl (by (try simp only [List.map_toArray, List.map_cons, List.map_nil]); first | done | rfl | (simp only [List.length_drop, List.length_take]; rfl)) ?_; (with_reducible refine (impl_Antipode.calls t244 t245 t248 t249 t250 _ A81.out).mono ?_); rintro e w110 ⟨rfl, hb⟩; refine ⟨_, rfl, ?_⟩; replace BK225 := Aside0.mk (blk_below (g := gb225) (o := .cells #[.int .i64 t223, .int .i64 t224] 28 (0, 0)) (hq BK225.out (.c NB225_247.out .n)) hb); replace BK228 := Aside0.mk (blk_below (g := gb228) (o := .cells #[.int .i64 t226, .int .i64 t227] 28 (0, 0)) (hq BK228.out (.c NB228_247.out .n)) hb); replace BK233 := Aside0.mk (blk_below (g := gb233) (o := .cells #[.int .i64 t230, .int .i64 t231] 28 (0, 0)) (hq BK233.out (.c NB233_247.out .n)) hb); replace BK247 := Aside0.mk (blk_below (g := gb247) (o := .cells #[.int .i64 t244, .int .i64 t245] 28 (0, 0)) (by refine hp ?_; refine blk_put (cs := #[.int .i64 t244, .int .i64 0]) ?_ 1 _ rfl; refine hp ?_; refine blk_put (cs := #[.int .i64 0, .int .i64 0]) ?_ 0 _ rfl; exact h0 BK247.out) hb); replace HB := Aside0.mk (below_step (bq HB.out (.c GE225.out (.c GE228.out (.c GE233.out (.c GE247.out .n))))) hb); (try clear hb); (try clear hb2); (try clear hk); (try clear hi)) | ((with_reducible refine gate_dst (N := 19) rfl ?_); refine box_event ?hg (N := 19) ?hd (cs := #[.int .i64 0, .int .i64 0]) (t := 28) ?hr ?_; (case hd => rfl); (case hg => rfl); (case hr => first | (go_simp; done) | (go_simp; rfl)); intro gb251 hg w111 hbox hb; have BK251 := Aside0.mk (hbox); have GW251 := Aside0.mk ((by rw [hg]; exact (below_size (bq HB.out (.c GE225.out (.c GE228.out (.c GE233.out (.c GE247.out .n)))))) : w.heap.size ≤ gb251)); have GE251 := Aside0.mk ((by rw [hg]; exact (below_size (bq HB.out (.c GE225.out (.c GE228.out (.c GE233.out (.c GE247.out .n)))))) : w.heap.size ≤ gb251)); replace HB := Aside0.mk (below_step (bq HB.out (.c GE225.out (.c GE228.out (.c GE233.out (.c GE247.out .n))))) hb); have NB225_251 := Aside0.mk ((by rw [hg]; exact Nat.ne_of_lt (blk_lt (g := gb225) (o := .cells #[.int .i64 t223, .int .i64 t224] 28 (0, 0)) (h0 BK225.out)) : gb225 ≠ gb251)); have NB251_225 := Aside0.mk ((by rw [hg]; exact Nat.ne_of_gt (blk_lt (g := gb225) (o := .cells #[.int .i64 t223, .int .i64 t224] 28 (0, 0)) (h0 BK225.out)) : gb251 ≠ gb225)); replace BK225 := Aside0.mk (blk_below (h0 BK225.out) hb); have NB228_251 := Aside0.mk ((by rw [hg]; exact Nat.ne_of_lt (blk_lt (g := gb228) (o := .cells #[.int .i64 t226, .int .i64 t227] 28 (0, 0)) (h0 BK228.out)) : gb228 ≠ gb251)); have NB251_228 := Aside0.mk ((by rw [hg]; exact Nat.ne_of_gt (blk_lt (g := gb228) (o := .cells #[.int .i64 t226, .int .i64 t227] 28 (0, 0)) (h0 BK228.out)) : gb251 ≠ gb228)); replace BK228 := Aside0.mk (blk_below (h0 BK228.out) hb); have NB233_251 := Aside0.mk ((by rw [hg]; exact Nat.ne_of_lt (blk_lt (g := gb233) (o := .cells #[.int .i64 t230, .int .i64 t231] 28 (0, 0)) (h0 BK233.out)) : gb233 ≠ gb251)); have NB251_233 := Aside0.mk ((by rw [hg]; exact Nat.ne_of_gt (blk_lt (g := gb233) (o := .cells #[.int .i64 t230, .int .i64 t231] 28 (0, 0)) (h0 BK233.out)) : gb251 ≠ gb233)); replace BK233 := Aside0.mk (blk_below (h0 BK233.out) hb); have NB247_251 := Aside0.mk ((by rw [hg]; exact Nat.ne_of_lt (blk_lt (g := gb247) (o := .cells #[.int .i64 t244, .int .i64 t245] 28 (0, 0)) (h0 BK247.out)) : gb247 ≠ gb251)); have NB251_247 := Aside0.mk ((by rw [hg]; exact Nat.ne_of_gt (blk_lt (g := gb247) (o := .cells #[.int .i64 t244, .int .i64 t245] 28 (0, 0)) (h0 BK247.out)) : gb251 ≠ gb247)); replace BK247 := Aside0.mk (blk_below (h0 BK247.out) hb); clear hb hbox hg; have hnb112 := NB251_225.out; have hnc112 := NB225_251.out; have hnb113 := NB251_228.out; have hnc113 := NB228_251.out; have hnb114 := NB251_233.out; have hnc114 := NB233_251.out; have hnb115 := NB251_247.out; have hnc115 := NB247_251.out; have hcz116_0 : w111.cell? ⟨gb251, 0, none⟩ = some (.int .i64 0) := (blk_cell BK251.out 0).trans rfl; have hcz116_1 : w111.cell? ⟨gb251, 1, none⟩ = some (.int .i64 0) := (blk_cell BK251.out 1).trans rfl; have hfz116_0 := blk_frozen BK251.out 0; have hfz116_1 := blk_frozen BK251.out 1; have hcz117_0 : w111.cell? ⟨gb225, 0, none⟩ = some (.int .i64 t223) := (blk_cell BK225.out 0).trans rfl; have hcz117_1 : w111.cell? ⟨gb225, 1, none⟩ = some (.int .i64 t224) := (blk_cell BK225.out 1).trans rfl; have hfz117_0 := blk_frozen BK225.out 0; have hfz117_1 := blk_frozen BK225.out 1) | ((with_reducible refine gate_callee (f := 29) rfl ?_); refine goesL_ (some 124) rfl rfl Tryz.func29 (by kernel_rfl) rfl #[.agg #[.int .i64 t223, .int .i64 t224], .agg #[.int .i64 t248, .int .i64 t249]] rfl (by (try simp only [List.map_toArray, List.map_cons, List.map_nil]); first | done | rfl | (simp only [List.length_drop, List.length_take]; rfl)) ?_; (with_reducible refine (impl_SamePlace.calls t223 t224 t248 t249 true t253 _ A82.out).mono ?_); rintro e w118 ⟨rfl, hb⟩; refine ⟨_, rfl, ?_⟩; replace BK225 := Aside0.mk (blk_below (g := gb225) (o := .cells #[.int .i64 t223, .int .i64 t224] 28 (0, 0)) (hq BK225.out (.c NB225_251.out .n)) hb); replace BK228 := Aside0.mk (blk_below (g := gb228) (o := .cells #[.int .i64 t226, .int .i64 t227] 28 (0, 0)) (hq BK228.out (.c NB228_251.out .n)) hb); replace BK233 := Aside0.mk (blk_below (g := gb233) (o := .cells #[.int .i64 t230, .int .i64 t231] 28 (0, 0)) (hq BK233.out (.c NB233_251.out .n)) hb); replace BK247 := Aside0.mk (blk_below (g := gb247) (o := .cells #[.int .i64 t244, .int .i64 t245] 28 (0, 0)) (hq BK247.out (.c NB247_251.out .n)) hb); replace BK251 := Aside0.mk (blk_below (g := gb251) (o := .cells #[.int .i64 t248, .int .i64 t249] 28 (0, 0)) (by refine hp ?_; refine blk_put (cs := #[.int .i64 t248, .int .i64 0]) ?_ 1 _ rfl; refine hp ?_; refine blk_put (cs := #[.int .i64 0, .int .i64 0]) ?_ 0 _ rfl; exact h0 BK251.out) hb); replace HB := Aside0.mk (below_step (bq HB.out (.c GE225.out (.c GE228.out (.c GE233.out (.c GE247.out (.c GE251.out .n)))))) hb); (try clear hb); (try clear hb2); (try clear hk); (try clear hi)))
                                  replace BK225 := Aside0.mk (blk_drew BK225.out)
                                  replace BK228 := Aside0.mk (blk_drew BK228.out)
                                  replace BK233 := Aside0.mk (blk_drew BK233.out)
                                  replace BK247 := Aside0.mk (blk_drew BK247.out)
                                  replace BK251 := Aside0.mk (blk_drew BK251.out)
                                  replace HB := Aside0.mk (below_drew1 HB.out)
                                  refine start_ (n := 13) (S := fun w' => w'.cell? ⟨gb225, 0, none⟩ = some (.int .i64 t223) ∧ w'.cell? ⟨gb225, 1, none⟩ = some (.int .i64 t224)) (ds := []) #[false, false, false, false, false, false, false, false, false, false, false, false, false] (by kernel_rfl) rfl rfl ⟨(blk_cell BK225.out 0).trans rfl, (blk_cell BK225.out 1).trans rfl⟩ (fun hHeld => ?_); refine with_tabW laws_FnPoints.tab17 laws_FnPoints.bits17 (fun HT_ HW_ => ?_)
                                  generalize w118.drew = w119 at BK225 BK228 BK233 BK247 BK251 HB hHeld ⊢
                                  refine tA 0 (some 128) HT_ HW_ hHeld ?_
                                  refine tA 2 (some 130) HT_ HW_ hHeld ?_
                                  refine join_ (σ := Nat) 3 #[true, true, true, true, true, true, true, true, true, true, false, false, false] (fun s_ => [(129, .agg #[.int .i64 t254, .int .i64 t255]), (131, .agg #[.int .i64 t256, .int .i64 t257]), (132, .tuple #[.agg #[.int .i64 t258, .int .i64 t259], .int .i64 t260, .int .i64 t261]), (23, .pointer (some ⟨s_, 0, none⟩)), (127, .tuple #[.agg #[.int .i64 t258, .int .i64 t259], .int .i64 t260, .int .i64 t261]), (133, .agg #[.int .i64 t258, .int .i64 t259]), (134, .int .i64 t260), (135, .int .i64 t261)]) (fun s_ w' => (w'.cell? ⟨gb225, 0, none⟩ = some (.int .i64 t223) ∧ w'.cell? ⟨gb225, 1, none⟩ = some (.int .i64 t224)) ∧ (w'.heap[gb225]? = some (.cells #[.int .i64 t223, .int .i64 t224] 28 (0, 0))) ∧ (w'.heap[gb228]? = some (.cells #[.int .i64 t226, .int .i64 t227] 28 (0, 0))) ∧ (w'.heap[gb233]? = some (.cells #[.int .i64 t230, .int .i64 t231] 28 (0, 0))) ∧ (w'.heap[gb247]? = some (.cells #[.int .i64 t244, .int .i64 t245] 28 (0, 0))) ∧ (w'.heap[gb251]? = some (.cells #[.int .i64 t248, .int .i64 t249] 28 (0, 0))) ∧ (w'.heap[s_]? = some (.cells #[.int .i64 0, .int .i64 0] 28 (0, 0))) ∧ (w.heap.size ≤ s_) ∧ (w.heap.size ≤ s_) ∧ (gb225 ≠ s_) ∧ (s_ ≠ gb225) ∧ (gb228 ≠ s_) ∧ (s_ ≠ gb228) ∧ (gb233 ≠ s_) ∧ (s_ ≠ gb233) ∧ (gb247 ≠ s_) ∧ (s_ ≠ gb247) ∧ (gb251 ≠ s_) ∧ (s_ ≠ gb251) ∧ (Below w.heap.size w w')) ?_ ?_
                                  rotate_left
                                  · intro hCont
                                    refine two_ (i := 1) (j := 9) (Ni := some 129) (Nj := some 23) #[true, true, true, false, false, false, false, false, false, false, false, false, false] #[true, false, true, false, false, false, false, false, false, true, false, false, false] rfl rfl rfl rfl (two_of HT_.out (by kernel_rfl)) (by decide) (by decide) (fun K hK => ?_) (fun K hK => ?_)
                                    · skip
                                      refine gs Tryz.func31 #[.agg #[.int .i64 t223, .int .i64 t224]] rfl ?_
                                      with_reducible refine (impl_LatOf.calls t223 t224 t254 t255 _ A83.out).mono ?_
                                      rintro e w120 ⟨rfl, hb⟩
                                      refine ⟨_, rfl, ?_⟩
                                      replace BK225 := Aside0.mk (blk_below (h0 BK225.out) hb)
                                      replace BK228 := Aside0.mk (blk_below (h0 BK228.out) hb)
                                      replace BK233 := Aside0.mk (blk_below (h0 BK233.out) hb)
                                      replace BK247 := Aside0.mk (blk_below (h0 BK247.out) hb)
                                      replace BK251 := Aside0.mk (blk_below (h0 BK251.out) hb)
                                      replace HB := Aside0.mk (below_step (bq HB.out (.c GE225.out (.c GE228.out (.c GE233.out (.c GE247.out (.c GE251.out .n)))))) hb)
                                      (try clear hb)
                                      (try clear hb2)
                                      (try clear hk)
                                      (try clear hi)
                                      refine hK.out _ _ ⟨(blk_cell BK225.out 0).trans rfl, (blk_cell BK225.out 1).trans rfl⟩ (fun hHeld => ?_)
                                      clear hK K
                                      refine nA (some 129) ?_
                                      refine two_ (i := 3) (j := 9) (Ni := some 131) (Nj := some 23) #[true, true, true, true, false, false, false, false, false, false, false, false, false] #[true, true, true, false, false, false, false, false, false, true, false, false, false] rfl rfl rfl rfl (two_of HT_.out (by kernel_rfl)) (by decide) (by decide) (fun K hK => ?_) (fun K hK => ?_)
                                      · skip
                                        refine gs Tryz.func32 #[.agg #[.int .i64 t223, .int .i64 t224]] rfl ?_
                                        with_reducible refine (impl_LonOf.calls t223 t224 t256 t257 _ A84.out).mono ?_
                                        rintro e w121 ⟨rfl, hb⟩
                                        refine ⟨_, rfl, ?_⟩
                                        replace BK225 := Aside0.mk (blk_below (h0 BK225.out) hb)
                                        replace BK228 := Aside0.mk (blk_below (h0 BK228.out) hb)
                                        replace BK233 := Aside0.mk (blk_below (h0 BK233.out) hb)
                                        replace BK247 := Aside0.mk (blk_below (h0 BK247.out) hb)
                                        replace BK251 := Aside0.mk (blk_below (h0 BK251.out) hb)
                                        replace HB := Aside0.mk (below_step (bq HB.out (.c GE225.out (.c GE228.out (.c GE233.out (.c GE247.out (.c GE251.out .n)))))) hb)
                                        (try clear hb)
                                        (try clear hb2)
                                        (try clear hk)
                                        (try clear hi)
                                        refine hK.out _ _ ⟨(blk_cell BK225.out 0).trans rfl, (blk_cell BK225.out 1).trans rfl⟩ (fun hHeld => ?_)
                                        clear hK K
                                        refine nA (some 131) ?_
                                        refine two_ (i := 4) (j := 9) (Ni := some 132) (Nj := some 23) #[true, true, true, true, true, false, false, false, false, false, false, false, false] #[true, true, true, true, false, false, false, false, false, true, false, false, false] rfl rfl rfl rfl (two_of HT_.out (by kernel_rfl)) (by decide) (by decide) (fun K hK => ?_) (fun K hK => ?_)
                                        · skip
                                          refine gs Tryz.func30 #[.agg #[.int .i64 t254, .int .i64 t255], .agg #[.int .i64 t256, .int .i64 t257]] rfl ?_
                                          with_reducible refine (impl_MiddlePoint.calls t254 t255 t256 t257 t258 t259 t260 t261 _ A85.out).mono ?_
                                          rintro e w122 ⟨rfl, hb⟩
                                          refine ⟨_, rfl, ?_⟩
                                          replace BK225 := Aside0.mk (blk_below (h0 BK225.out) hb)
                                          replace BK228 := Aside0.mk (blk_below (h0 BK228.out) hb)
                                          replace BK233 := Aside0.mk (blk_below (h0 BK233.out) hb)
                                          replace BK247 := Aside0.mk (blk_below (h0 BK247.out) hb)
                                          replace BK251 := Aside0.mk (blk_below (h0 BK251.out) hb)
                                          replace HB := Aside0.mk (below_step (bq HB.out (.c GE225.out (.c GE228.out (.c GE233.out (.c GE247.out (.c GE251.out .n)))))) hb)
                                          (try clear hb)
                                          (try clear hb2)
                                          (try clear hk)
                                          (try clear hi)
                                          refine hK.out _ _ ⟨(blk_cell BK225.out 0).trans rfl, (blk_cell BK225.out 1).trans rfl⟩ (fun hHeld => ?_)
                                          clear hK K
                                          refine nA (some 132) ?_
                                          refine pA 5 (some 127) HT_ ?_
                                          refine pA 6 (some 133) HT_ ?_
                                          refine pA 7 (some 134) HT_ ?_
                                          refine pA 8 (some 135) HT_ ?_
                                          refine oA 9 (some 23) HT_ fun K hK => ?_
                                          refine box_step ?hg (N := 23) ?hd (cs := #[.int .i64 0, .int .i64 0]) (t := 28) ?hr ?_; (case hd => rfl); (case hg => rfl); (case hr => first | (go_simp; done) | (go_simp; rfl))
                                          intro gb262 hg w123 hbox hb
                                          have BK262 := Aside0.mk (hbox)
                                          have GW262 := Aside0.mk ((by rw [hg]; exact (below_size (bq HB.out (.c GE225.out (.c GE228.out (.c GE233.out (.c GE247.out (.c GE251.out .n))))))) : w.heap.size ≤ gb262))
                                          have GE262 := Aside0.mk ((by rw [hg]; exact (below_size (bq HB.out (.c GE225.out (.c GE228.out (.c GE233.out (.c GE247.out (.c GE251.out .n))))))) : w.heap.size ≤ gb262))
                                          replace HB := Aside0.mk (below_step (bq HB.out (.c GE225.out (.c GE228.out (.c GE233.out (.c GE247.out (.c GE251.out .n)))))) hb)
                                          have NB225_262 := Aside0.mk ((by rw [hg]; exact Nat.ne_of_lt (blk_lt (g := gb225) (o := .cells #[.int .i64 t223, .int .i64 t224] 28 (0, 0)) (h0 BK225.out)) : gb225 ≠ gb262))
                                          have NB262_225 := Aside0.mk ((by rw [hg]; exact Nat.ne_of_gt (blk_lt (g := gb225) (o := .cells #[.int .i64 t223, .int .i64 t224] 28 (0, 0)) (h0 BK225.out)) : gb262 ≠ gb225))
                                          replace BK225 := Aside0.mk (blk_below (h0 BK225.out) hb)
                                          have NB228_262 := Aside0.mk ((by rw [hg]; exact Nat.ne_of_lt (blk_lt (g := gb228) (o := .cells #[.int .i64 t226, .int .i64 t227] 28 (0, 0)) (h0 BK228.out)) : gb228 ≠ gb262))
                                          have NB262_228 := Aside0.mk ((by rw [hg]; exact Nat.ne_of_gt (blk_lt (g := gb228) (o := .cells #[.int .i64 t226, .int .i64 t227] 28 (0, 0)) (h0 BK228.out)) : gb262 ≠ gb228))
                                          replace BK228 := Aside0.mk (blk_below (h0 BK228.out) hb)
                                          have NB233_262 := Aside0.mk ((by rw [hg]; exact Nat.ne_of_lt (blk_lt (g := gb233) (o := .cells #[.int .i64 t230, .int .i64 t231] 28 (0, 0)) (h0 BK233.out)) : gb233 ≠ gb262))
                                          have NB262_233 := Aside0.mk ((by rw [hg]; exact Nat.ne_of_gt (blk_lt (g := gb233) (o := .cells #[.int .i64 t230, .int .i64 t231] 28 (0, 0)) (h0 BK233.out)) : gb262 ≠ gb233))
                                          replace BK233 := Aside0.mk (blk_below (h0 BK233.out) hb)
                                          have NB247_262 := Aside0.mk ((by rw [hg]; exact Nat.ne_of_lt (blk_lt (g := gb247) (o := .cells #[.int .i64 t244, .int .i64 t245] 28 (0, 0)) (h0 BK247.out)) : gb247 ≠ gb262))
                                          have NB262_247 := Aside0.mk ((by rw [hg]; exact Nat.ne_of_gt (blk_lt (g := gb247) (o := .cells #[.int .i64 t244, .int .i64 t245] 28 (0, 0)) (h0 BK247.out)) : gb262 ≠ gb247))
                                          replace BK247 := Aside0.mk (blk_below (h0 BK247.out) hb)
                                          have NB251_262 := Aside0.mk ((by rw [hg]; exact Nat.ne_of_lt (blk_lt (g := gb251) (o := .cells #[.int .i64 t248, .int .i64 t249] 28 (0, 0)) (h0 BK251.out)) : gb251 ≠ gb262))
                                          have NB262_251 := Aside0.mk ((by rw [hg]; exact Nat.ne_of_gt (blk_lt (g := gb251) (o := .cells #[.int .i64 t248, .int .i64 t249] 28 (0, 0)) (h0 BK251.out)) : gb262 ≠ gb251))
                                          replace BK251 := Aside0.mk (blk_below (h0 BK251.out) hb)
                                          clear hb hbox hg
                                          refine hK.out _ _ ⟨(blk_cell BK225.out 0).trans rfl, (blk_cell BK225.out 1).trans rfl⟩ (fun hHeld => ?_)
                                          clear hK K
                                          refine nA (some 23) ?_
                                          exact norm_ (by simp only [putAll, Act.put, List.setIfInBounds_toArray, List.set_cons_zero, List.set_cons_succ]) (hCont (gb262) _ ⟨hHeld, (h0 BK225.out), (h0 BK228.out), (h0 BK233.out), (h0 BK247.out), (h0 BK251.out), (h0 BK262.out), GW262.out, GE262.out, NB225_262.out, NB262_225.out, NB228_262.out, NB262_228.out, NB233_262.out, NB262_233.out, NB247_262.out, NB262_247.out, NB251_262.out, NB262_251.out, (bq HB.out (.c GE225.out (.c GE228.out (.c GE233.out (.c GE247.out (.c GE251.out (.c GE262.out .n)))))))⟩)
                                        · skip
                                          refine box_step ?hg (N := 23) ?hd (cs := #[.int .i64 0, .int .i64 0]) (t := 28) ?hr ?_; (case hd => rfl); (case hg => rfl); (case hr => first | (go_simp; done) | (go_simp; rfl))
                                          intro gb262 hg w122 hbox hb
                                          have BK262 := Aside0.mk (hbox)
                                          have GW262 := Aside0.mk ((by rw [hg]; exact (below_size (bq HB.out (.c GE225.out (.c GE228.out (.c GE233.out (.c GE247.out (.c GE251.out .n))))))) : w.heap.size ≤ gb262))
                                          have GE262 := Aside0.mk ((by rw [hg]; exact (below_size (bq HB.out (.c GE225.out (.c GE228.out (.c GE233.out (.c GE247.out (.c GE251.out .n))))))) : w.heap.size ≤ gb262))
                                          replace HB := Aside0.mk (below_step (bq HB.out (.c GE225.out (.c GE228.out (.c GE233.out (.c GE247.out (.c GE251.out .n)))))) hb)
                                          have NB225_262 := Aside0.mk ((by rw [hg]; exact Nat.ne_of_lt (blk_lt (g := gb225) (o := .cells #[.int .i64 t223, .int .i64 t224] 28 (0, 0)) (h0 BK225.out)) : gb225 ≠ gb262))
                                          have NB262_225 := Aside0.mk ((by rw [hg]; exact Nat.ne_of_gt (blk_lt (g := gb225) (o := .cells #[.int .i64 t223, .int .i64 t224] 28 (0, 0)) (h0 BK225.out)) : gb262 ≠ gb225))
                                          replace BK225 := Aside0.mk (blk_below (h0 BK225.out) hb)
                                          have NB228_262 := Aside0.mk ((by rw [hg]; exact Nat.ne_of_lt (blk_lt (g := gb228) (o := .cells #[.int .i64 t226, .int .i64 t227] 28 (0, 0)) (h0 BK228.out)) : gb228 ≠ gb262))
                                          have NB262_228 := Aside0.mk ((by rw [hg]; exact Nat.ne_of_gt (blk_lt (g := gb228) (o := .cells #[.int .i64 t226, .int .i64 t227] 28 (0, 0)) (h0 BK228.out)) : gb262 ≠ gb228))
                                          replace BK228 := Aside0.mk (blk_below (h0 BK228.out) hb)
                                          have NB233_262 := Aside0.mk ((by rw [hg]; exact Nat.ne_of_lt (blk_lt (g := gb233) (o := .cells #[.int .i64 t230, .int .i64 t231] 28 (0, 0)) (h0 BK233.out)) : gb233 ≠ gb262))
                                          have NB262_233 := Aside0.mk ((by rw [hg]; exact Nat.ne_of_gt (blk_lt (g := gb233) (o := .cells #[.int .i64 t230, .int .i64 t231] 28 (0, 0)) (h0 BK233.out)) : gb262 ≠ gb233))
                                          replace BK233 := Aside0.mk (blk_below (h0 BK233.out) hb)
                                          have NB247_262 := Aside0.mk ((by rw [hg]; exact Nat.ne_of_lt (blk_lt (g := gb247) (o := .cells #[.int .i64 t244, .int .i64 t245] 28 (0, 0)) (h0 BK247.out)) : gb247 ≠ gb262))
                                          have NB262_247 := Aside0.mk ((by rw [hg]; exact Nat.ne_of_gt (blk_lt (g := gb247) (o := .cells #[.int .i64 t244, .int .i64 t245] 28 (0, 0)) (h0 BK247.out)) : gb262 ≠ gb247))
                                          replace BK247 := Aside0.mk (blk_below (h0 BK247.out) hb)
                                          have NB251_262 := Aside0.mk ((by rw [hg]; exact Nat.ne_of_lt (blk_lt (g := gb251) (o := .cells #[.int .i64 t248, .int .i64 t249] 28 (0, 0)) (h0 BK251.out)) : gb251 ≠ gb262))
                                          have NB262_251 := Aside0.mk ((by rw [hg]; exact Nat.ne_of_gt (blk_lt (g := gb251) (o := .cells #[.int .i64 t248, .int .i64 t249] 28 (0, 0)) (h0 BK251.out)) : gb262 ≠ gb251))
                                          replace BK251 := Aside0.mk (blk_below (h0 BK251.out) hb)
                                          clear hb hbox hg
                                          refine hK.out _ _ ⟨(blk_cell BK225.out 0).trans rfl, (blk_cell BK225.out 1).trans rfl⟩ (fun hHeld => ?_)
                                          clear hK K
                                          refine nA (some 23) ?_
                                          refine oA 4 (some 132) HT_ fun K hK => ?_
                                          refine gs Tryz.func30 #[.agg #[.int .i64 t254, .int .i64 t255], .agg #[.int .i64 t256, .int .i64 t257]] rfl ?_
                                          with_reducible refine (impl_MiddlePoint.calls t254 t255 t256 t257 t258 t259 t260 t261 _ A85.out).mono ?_
                                          rintro e w123 ⟨rfl, hb⟩
                                          refine ⟨_, rfl, ?_⟩
                                          replace BK225 := Aside0.mk (blk_below (h0 BK225.out) hb)
                                          replace BK228 := Aside0.mk (blk_below (h0 BK228.out) hb)
                                          replace BK233 := Aside0.mk (blk_below (h0 BK233.out) hb)
                                          replace BK247 := Aside0.mk (blk_below (h0 BK247.out) hb)
                                          replace BK251 := Aside0.mk (blk_below (h0 BK251.out) hb)
                                          replace BK262 := Aside0.mk (blk_below (h0 BK262.out) hb)
                                          replace HB := Aside0.mk (below_step (bq HB.out (.c GE225.out (.c GE228.out (.c GE233.out (.c GE247.out (.c GE251.out (.c GE262.out .n))))))) hb)
                                          (try clear hb)
                                          (try clear hb2)
                                          (try clear hk)
                                          (try clear hi)
                                          refine hK.out _ _ ⟨(blk_cell BK225.out 0).trans rfl, (blk_cell BK225.out 1).trans rfl⟩ (fun hHeld => ?_)
                                          clear hK K
                                          refine nA (some 132) ?_
                                          refine pA 5 (some 127) HT_ ?_
                                          refine pA 6 (some 133) HT_ ?_
                                          refine pA 7 (some 134) HT_ ?_
                                          refine pA 8 (some 135) HT_ ?_
                                          exact norm_ (by simp only [putAll, Act.put, List.setIfInBounds_toArray, List.set_cons_zero, List.set_cons_succ]) (hCont (gb262) _ ⟨hHeld, (h0 BK225.out), (h0 BK228.out), (h0 BK233.out), (h0 BK247.out), (h0 BK251.out), (h0 BK262.out), GW262.out, GE262.out, NB225_262.out, NB262_225.out, NB228_262.out, NB262_228.out, NB233_262.out, NB262_233.out, NB247_262.out, NB262_247.out, NB251_262.out, NB262_251.out, (bq HB.out (.c GE225.out (.c GE228.out (.c GE233.out (.c GE247.out (.c GE251.out (.c GE262.out .n)))))))⟩)
                                      · skip
                                        refine box_step ?hg (N := 23) ?hd (cs := #[.int .i64 0, .int .i64 0]) (t := 28) ?hr ?_; (case hd => rfl); (case hg => rfl); (case hr => first | (go_simp; done) | (go_simp; rfl))
                                        intro gb262 hg w121 hbox hb
                                        have BK262 := Aside0.mk (hbox)
                                        have GW262 := Aside0.mk ((by rw [hg]; exact (below_size (bq HB.out (.c GE225.out (.c GE228.out (.c GE233.out (.c GE247.out (.c GE251.out .n))))))) : w.heap.size ≤ gb262))
                                        have GE262 := Aside0.mk ((by rw [hg]; exact (below_size (bq HB.out (.c GE225.out (.c GE228.out (.c GE233.out (.c GE247.out (.c GE251.out .n))))))) : w.heap.size ≤ gb262))
                                        replace HB := Aside0.mk (below_step (bq HB.out (.c GE225.out (.c GE228.out (.c GE233.out (.c GE247.out (.c GE251.out .n)))))) hb)
                                        have NB225_262 := Aside0.mk ((by rw [hg]; exact Nat.ne_of_lt (blk_lt (g := gb225) (o := .cells #[.int .i64 t223, .int .i64 t224] 28 (0, 0)) (h0 BK225.out)) : gb225 ≠ gb262))
                                        have NB262_225 := Aside0.mk ((by rw [hg]; exact Nat.ne_of_gt (blk_lt (g := gb225) (o := .cells #[.int .i64 t223, .int .i64 t224] 28 (0, 0)) (h0 BK225.out)) : gb262 ≠ gb225))
                                        replace BK225 := Aside0.mk (blk_below (h0 BK225.out) hb)
                                        have NB228_262 := Aside0.mk ((by rw [hg]; exact Nat.ne_of_lt (blk_lt (g := gb228) (o := .cells #[.int .i64 t226, .int .i64 t227] 28 (0, 0)) (h0 BK228.out)) : gb228 ≠ gb262))
                                        have NB262_228 := Aside0.mk ((by rw [hg]; exact Nat.ne_of_gt (blk_lt (g := gb228) (o := .cells #[.int .i64 t226, .int .i64 t227] 28 (0, 0)) (h0 BK228.out)) : gb262 ≠ gb228))
                                        replace BK228 := Aside0.mk (blk_below (h0 BK228.out) hb)
                                        have NB233_262 := Aside0.mk ((by rw [hg]; exact Nat.ne_of_lt (blk_lt (g := gb233) (o := .cells #[.int .i64 t230, .int .i64 t231] 28 (0, 0)) (h0 BK233.out)) : gb233 ≠ gb262))
                                        have NB262_233 := Aside0.mk ((by rw [hg]; exact Nat.ne_of_gt (blk_lt (g := gb233) (o := .cells #[.int .i64 t230, .int .i64 t231] 28 (0, 0)) (h0 BK233.out)) : gb262 ≠ gb233))
                                        replace BK233 := Aside0.mk (blk_below (h0 BK233.out) hb)
                                        have NB247_262 := Aside0.mk ((by rw [hg]; exact Nat.ne_of_lt (blk_lt (g := gb247) (o := .cells #[.int .i64 t244, .int .i64 t245] 28 (0, 0)) (h0 BK247.out)) : gb247 ≠ gb262))
                                        have NB262_247 := Aside0.mk ((by rw [hg]; exact Nat.ne_of_gt (blk_lt (g := gb247) (o := .cells #[.int .i64 t244, .int .i64 t245] 28 (0, 0)) (h0 BK247.out)) : gb262 ≠ gb247))
                                        replace BK247 := Aside0.mk (blk_below (h0 BK247.out) hb)
                                        have NB251_262 := Aside0.mk ((by rw [hg]; exact Nat.ne_of_lt (blk_lt (g := gb251) (o := .cells #[.int .i64 t248, .int .i64 t249] 28 (0, 0)) (h0 BK251.out)) : gb251 ≠ gb262))
                                        have NB262_251 := Aside0.mk ((by rw [hg]; exact Nat.ne_of_gt (blk_lt (g := gb251) (o := .cells #[.int .i64 t248, .int .i64 t249] 28 (0, 0)) (h0 BK251.out)) : gb262 ≠ gb251))
                                        replace BK251 := Aside0.mk (blk_below (h0 BK251.out) hb)
                                        clear hb hbox hg
                                        refine hK.out _ _ ⟨(blk_cell BK225.out 0).trans rfl, (blk_cell BK225.out 1).trans rfl⟩ (fun hHeld => ?_)
                                        clear hK K
                                        refine nA (some 23) ?_
                                        refine oA 3 (some 131) HT_ fun K hK => ?_
                                        refine gs Tryz.func32 #[.agg #[.int .i64 t223, .int .i64 t224]] rfl ?_
                                        with_reducible refine (impl_LonOf.calls t223 t224 t256 t257 _ A84.out).mono ?_
                                        rintro e w122 ⟨rfl, hb⟩
                                        refine ⟨_, rfl, ?_⟩
                                        replace BK225 := Aside0.mk (blk_below (h0 BK225.out) hb)
                                        replace BK228 := Aside0.mk (blk_below (h0 BK228.out) hb)
                                        replace BK233 := Aside0.mk (blk_below (h0 BK233.out) hb)
                                        replace BK247 := Aside0.mk (blk_below (h0 BK247.out) hb)
                                        replace BK251 := Aside0.mk (blk_below (h0 BK251.out) hb)
                                        replace BK262 := Aside0.mk (blk_below (h0 BK262.out) hb)
                                        replace HB := Aside0.mk (below_step (bq HB.out (.c GE225.out (.c GE228.out (.c GE233.out (.c GE247.out (.c GE251.out (.c GE262.out .n))))))) hb)
                                        (try clear hb)
                                        (try clear hb2)
                                        (try clear hk)
                                        (try clear hi)
                                        refine hK.out _ _ ⟨(blk_cell BK225.out 0).trans rfl, (blk_cell BK225.out 1).trans rfl⟩ (fun hHeld => ?_)
                                        clear hK K
                                        refine nA (some 131) ?_
                                        refine oA 4 (some 132) HT_ fun K hK => ?_
                                        refine gs Tryz.func30 #[.agg #[.int .i64 t254, .int .i64 t255], .agg #[.int .i64 t256, .int .i64 t257]] rfl ?_
                                        with_reducible refine (impl_MiddlePoint.calls t254 t255 t256 t257 t258 t259 t260 t261 _ A85.out).mono ?_
                                        rintro e w123 ⟨rfl, hb⟩
                                        refine ⟨_, rfl, ?_⟩
                                        replace BK225 := Aside0.mk (blk_below (h0 BK225.out) hb)
                                        replace BK228 := Aside0.mk (blk_below (h0 BK228.out) hb)
                                        replace BK233 := Aside0.mk (blk_below (h0 BK233.out) hb)
                                        replace BK247 := Aside0.mk (blk_below (h0 BK247.out) hb)
                                        replace BK251 := Aside0.mk (blk_below (h0 BK251.out) hb)
                                        replace BK262 := Aside0.mk (blk_below (h0 BK262.out) hb)
                                        replace HB := Aside0.mk (below_step (bq HB.out (.c GE225.out (.c GE228.out (.c GE233.out (.c GE247.out (.c GE251.out (.c GE262.out .n))))))) hb)
                                        (try clear hb)
                                        (try clear hb2)
                                        (try clear hk)
                                        (try clear hi)
                                        refine hK.out _ _ ⟨(blk_cell BK225.out 0).trans rfl, (blk_cell BK225.out 1).trans rfl⟩ (fun hHeld => ?_)
                                        clear hK K
                                        refine nA (some 132) ?_
                                        refine pA 5 (some 127) HT_ ?_
                                        refine pA 6 (some 133) HT_ ?_
                                        refine pA 7 (some 134) HT_ ?_
                                        refine pA 8 (some 135) HT_ ?_
                                        exact norm_ (by simp only [putAll, Act.put, List.setIfInBounds_toArray, List.set_cons_zero, List.set_cons_succ]) (hCont (gb262) _ ⟨hHeld, (h0 BK225.out), (h0 BK228.out), (h0 BK233.out), (h0 BK247.out), (h0 BK251.out), (h0 BK262.out), GW262.out, GE262.out, NB225_262.out, NB262_225.out, NB228_262.out, NB262_228.out, NB233_262.out, NB262_233.out, NB247_262.out, NB262_247.out, NB251_262.out, NB262_251.out, (bq HB.out (.c GE225.out (.c GE228.out (.c GE233.out (.c GE247.out (.c GE251.out (.c GE262.out .n)))))))⟩)
                                    · skip
                                      refine box_step ?hg (N := 23) ?hd (cs := #[.int .i64 0, .int .i64 0]) (t := 28) ?hr ?_; (case hd => rfl); (case hg => rfl); (case hr => first | (go_simp; done) | (go_simp; rfl))
                                      intro gb262 hg w120 hbox hb
                                      have BK262 := Aside0.mk (hbox)
                                      have GW262 := Aside0.mk ((by rw [hg]; exact (below_size (bq HB.out (.c GE225.out (.c GE228.out (.c GE233.out (.c GE247.out (.c GE251.out .n))))))) : w.heap.size ≤ gb262))
                                      have GE262 := Aside0.mk ((by rw [hg]; exact (below_size (bq HB.out (.c GE225.out (.c GE228.out (.c GE233.out (.c GE247.out (.c GE251.out .n))))))) : w.heap.size ≤ gb262))
                                      replace HB := Aside0.mk (below_step (bq HB.out (.c GE225.out (.c GE228.out (.c GE233.out (.c GE247.out (.c GE251.out .n)))))) hb)
                                      have NB225_262 := Aside0.mk ((by rw [hg]; exact Nat.ne_of_lt (blk_lt (g := gb225) (o := .cells #[.int .i64 t223, .int .i64 t224] 28 (0, 0)) (h0 BK225.out)) : gb225 ≠ gb262))
                                      have NB262_225 := Aside0.mk ((by rw [hg]; exact Nat.ne_of_gt (blk_lt (g := gb225) (o := .cells #[.int .i64 t223, .int .i64 t224] 28 (0, 0)) (h0 BK225.out)) : gb262 ≠ gb225))
                                      replace BK225 := Aside0.mk (blk_below (h0 BK225.out) hb)
                                      have NB228_262 := Aside0.mk ((by rw [hg]; exact Nat.ne_of_lt (blk_lt (g := gb228) (o := .cells #[.int .i64 t226, .int .i64 t227] 28 (0, 0)) (h0 BK228.out)) : gb228 ≠ gb262))
                                      have NB262_228 := Aside0.mk ((by rw [hg]; exact Nat.ne_of_gt (blk_lt (g := gb228) (o := .cells #[.int .i64 t226, .int .i64 t227] 28 (0, 0)) (h0 BK228.out)) : gb262 ≠ gb228))
                                      replace BK228 := Aside0.mk (blk_below (h0 BK228.out) hb)
                                      have NB233_262 := Aside0.mk ((by rw [hg]; exact Nat.ne_of_lt (blk_lt (g := gb233) (o := .cells #[.int .i64 t230, .int .i64 t231] 28 (0, 0)) (h0 BK233.out)) : gb233 ≠ gb262))
                                      have NB262_233 := Aside0.mk ((by rw [hg]; exact Nat.ne_of_gt (blk_lt (g := gb233) (o := .cells #[.int .i64 t230, .int .i64 t231] 28 (0, 0)) (h0 BK233.out)) : gb262 ≠ gb233))
                                      replace BK233 := Aside0.mk (blk_below (h0 BK233.out) hb)
                                      have NB247_262 := Aside0.mk ((by rw [hg]; exact Nat.ne_of_lt (blk_lt (g := gb247) (o := .cells #[.int .i64 t244, .int .i64 t245] 28 (0, 0)) (h0 BK247.out)) : gb247 ≠ gb262))
                                      have NB262_247 := Aside0.mk ((by rw [hg]; exact Nat.ne_of_gt (blk_lt (g := gb247) (o := .cells #[.int .i64 t244, .int .i64 t245] 28 (0, 0)) (h0 BK247.out)) : gb262 ≠ gb247))
                                      replace BK247 := Aside0.mk (blk_below (h0 BK247.out) hb)
                                      have NB251_262 := Aside0.mk ((by rw [hg]; exact Nat.ne_of_lt (blk_lt (g := gb251) (o := .cells #[.int .i64 t248, .int .i64 t249] 28 (0, 0)) (h0 BK251.out)) : gb251 ≠ gb262))
                                      have NB262_251 := Aside0.mk ((by rw [hg]; exact Nat.ne_of_gt (blk_lt (g := gb251) (o := .cells #[.int .i64 t248, .int .i64 t249] 28 (0, 0)) (h0 BK251.out)) : gb262 ≠ gb251))
                                      replace BK251 := Aside0.mk (blk_below (h0 BK251.out) hb)
                                      clear hb hbox hg
                                      refine hK.out _ _ ⟨(blk_cell BK225.out 0).trans rfl, (blk_cell BK225.out 1).trans rfl⟩ (fun hHeld => ?_)
                                      clear hK K
                                      refine nA (some 23) ?_
                                      refine oA 1 (some 129) HT_ fun K hK => ?_
                                      refine gs Tryz.func31 #[.agg #[.int .i64 t223, .int .i64 t224]] rfl ?_
                                      with_reducible refine (impl_LatOf.calls t223 t224 t254 t255 _ A83.out).mono ?_
                                      rintro e w121 ⟨rfl, hb⟩
                                      refine ⟨_, rfl, ?_⟩
                                      replace BK225 := Aside0.mk (blk_below (h0 BK225.out) hb)
                                      replace BK228 := Aside0.mk (blk_below (h0 BK228.out) hb)
                                      replace BK233 := Aside0.mk (blk_below (h0 BK233.out) hb)
                                      replace BK247 := Aside0.mk (blk_below (h0 BK247.out) hb)
                                      replace BK251 := Aside0.mk (blk_below (h0 BK251.out) hb)
                                      replace BK262 := Aside0.mk (blk_below (h0 BK262.out) hb)
                                      replace HB := Aside0.mk (below_step (bq HB.out (.c GE225.out (.c GE228.out (.c GE233.out (.c GE247.out (.c GE251.out (.c GE262.out .n))))))) hb)
                                      (try clear hb)
                                      (try clear hb2)
                                      (try clear hk)
                                      (try clear hi)
                                      refine hK.out _ _ ⟨(blk_cell BK225.out 0).trans rfl, (blk_cell BK225.out 1).trans rfl⟩ (fun hHeld => ?_)
                                      clear hK K
                                      refine nA (some 129) ?_
                                      refine oA 3 (some 131) HT_ fun K hK => ?_
                                      refine gs Tryz.func32 #[.agg #[.int .i64 t223, .int .i64 t224]] rfl ?_
                                      with_reducible refine (impl_LonOf.calls t223 t224 t256 t257 _ A84.out).mono ?_
                                      rintro e w122 ⟨rfl, hb⟩
                                      refine ⟨_, rfl, ?_⟩
                                      replace BK225 := Aside0.mk (blk_below (h0 BK225.out) hb)
                                      replace BK228 := Aside0.mk (blk_below (h0 BK228.out) hb)
                                      replace BK233 := Aside0.mk (blk_below (h0 BK233.out) hb)
                                      replace BK247 := Aside0.mk (blk_below (h0 BK247.out) hb)
                                      replace BK251 := Aside0.mk (blk_below (h0 BK251.out) hb)
                                      replace BK262 := Aside0.mk (blk_below (h0 BK262.out) hb)
                                      replace HB := Aside0.mk (below_step (bq HB.out (.c GE225.out (.c GE228.out (.c GE233.out (.c GE247.out (.c GE251.out (.c GE262.out .n))))))) hb)
                                      (try clear hb)
                                      (try clear hb2)
                                      (try clear hk)
                                      (try clear hi)
                                      refine hK.out _ _ ⟨(blk_cell BK225.out 0).trans rfl, (blk_cell BK225.out 1).trans rfl⟩ (fun hHeld => ?_)
                                      clear hK K
                                      refine nA (some 131) ?_
                                      refine oA 4 (some 132) HT_ fun K hK => ?_
                                      refine gs Tryz.func30 #[.agg #[.int .i64 t254, .int .i64 t255], .agg #[.int .i64 t256, .int .i64 t257]] rfl ?_
                                      with_reducible refine (impl_MiddlePoint.calls t254 t255 t256 t257 t258 t259 t260 t261 _ A85.out).mono ?_
                                      rintro e w123 ⟨rfl, hb⟩
                                      refine ⟨_, rfl, ?_⟩
                                      replace BK225 := Aside0.mk (blk_below (h0 BK225.out) hb)
                                      replace BK228 := Aside0.mk (blk_below (h0 BK228.out) hb)
                                      replace BK233 := Aside0.mk (blk_below (h0 BK233.out) hb)
                                      replace BK247 := Aside0.mk (blk_below (h0 BK247.out) hb)
                                      replace BK251 := Aside0.mk (blk_below (h0 BK251.out) hb)
                                      replace BK262 := Aside0.mk (blk_below (h0 BK262.out) hb)
                                      replace HB := Aside0.mk (below_step (bq HB.out (.c GE225.out (.c GE228.out (.c GE233.out (.c GE247.out (.c GE251.out (.c GE262.out .n))))))) hb)
                                      (try clear hb)
                                      (try clear hb2)
                                      (try clear hk)
                                      (try clear hi)
                                      refine hK.out _ _ ⟨(blk_cell BK225.out 0).trans rfl, (blk_cell BK225.out 1).trans rfl⟩ (fun hHeld => ?_)
                                      clear hK K
                                      refine nA (some 132) ?_
                                      refine pA 5 (some 127) HT_ ?_
                                      refine pA 6 (some 133) HT_ ?_
                                      refine pA 7 (some 134) HT_ ?_
                                      refine pA 8 (some 135) HT_ ?_
                                      exact norm_ (by simp only [putAll, Act.put, List.setIfInBounds_toArray, List.set_cons_zero, List.set_cons_succ]) (hCont (gb262) _ ⟨hHeld, (h0 BK225.out), (h0 BK228.out), (h0 BK233.out), (h0 BK247.out), (h0 BK251.out), (h0 BK262.out), GW262.out, GE262.out, NB225_262.out, NB262_225.out, NB228_262.out, NB262_228.out, NB233_262.out, NB262_233.out, NB247_262.out, NB262_247.out, NB251_262.out, NB262_251.out, (bq HB.out (.c GE225.out (.c GE228.out (.c GE233.out (.c GE247.out (.c GE251.out (.c GE262.out .n)))))))⟩)
                                  rintro gb262 w124 ⟨hS_, h0_, h1_, h2_, h3_, h4_, h5_, h6_, h7_, h8_, h9_, h10_, h11_, h12_, h13_, h14_, h15_, h16_, h17_, h18_⟩
                                  have n0_ : Aside0 (w124.heap[gb225]? = some (.cells #[.int .i64 t223, .int .i64 t224] 28 (0, 0))) := ⟨h0_⟩
                                  have n1_ : Aside0 (w124.heap[gb228]? = some (.cells #[.int .i64 t226, .int .i64 t227] 28 (0, 0))) := ⟨h1_⟩
                                  have n2_ : Aside0 (w124.heap[gb233]? = some (.cells #[.int .i64 t230, .int .i64 t231] 28 (0, 0))) := ⟨h2_⟩
                                  have n3_ : Aside0 (w124.heap[gb247]? = some (.cells #[.int .i64 t244, .int .i64 t245] 28 (0, 0))) := ⟨h3_⟩
                                  have n4_ : Aside0 (w124.heap[gb251]? = some (.cells #[.int .i64 t248, .int .i64 t249] 28 (0, 0))) := ⟨h4_⟩
                                  have n5_ : Aside0 (w124.heap[gb262]? = some (.cells #[.int .i64 0, .int .i64 0] 28 (0, 0))) := ⟨h5_⟩
                                  have n6_ : Aside0 (w.heap.size ≤ gb262) := ⟨h6_⟩
                                  have n7_ : Aside0 (w.heap.size ≤ gb262) := ⟨h7_⟩
                                  have n8_ : Aside0 (gb225 ≠ gb262) := ⟨h8_⟩
                                  have n9_ : Aside0 (gb262 ≠ gb225) := ⟨h9_⟩
                                  have n10_ : Aside0 (gb228 ≠ gb262) := ⟨h10_⟩
                                  have n11_ : Aside0 (gb262 ≠ gb228) := ⟨h11_⟩
                                  have n12_ : Aside0 (gb233 ≠ gb262) := ⟨h12_⟩
                                  have n13_ : Aside0 (gb262 ≠ gb233) := ⟨h13_⟩
                                  have n14_ : Aside0 (gb247 ≠ gb262) := ⟨h14_⟩
                                  have n15_ : Aside0 (gb262 ≠ gb247) := ⟨h15_⟩
                                  have n16_ : Aside0 (gb251 ≠ gb262) := ⟨h16_⟩
                                  have n17_ : Aside0 (gb262 ≠ gb251) := ⟨h17_⟩
                                  have n18_ : Aside0 (Below w.heap.size w w124) := ⟨h18_⟩
                                  clear BK225
                                  clear BK228
                                  clear BK233
                                  clear BK247
                                  clear BK251
                                  clear HB
                                  clear h0_ h1_ h2_ h3_ h4_ h5_ h6_ h7_ h8_ h9_ h10_ h11_ h12_ h13_ h14_ h15_ h16_ h17_ h18_
                                  have BK225 := n0_
                                  have BK228 := n1_
                                  have BK233 := n2_
                                  have BK247 := n3_
                                  have BK251 := n4_
                                  have BK262 := n5_
                                  have GW262 := n6_
                                  have GE262 := n7_
                                  have NB225_262 := n8_
                                  have NB262_225 := n9_
                                  have NB228_262 := n10_
                                  have NB262_228 := n11_
                                  have NB233_262 := n12_
                                  have NB262_233 := n13_
                                  have NB247_262 := n14_
                                  have NB262_247 := n15_
                                  have NB251_262 := n16_
                                  have NB262_251 := n17_
                                  have HB := n18_
                                  clear n0_ n1_ n2_ n3_ n4_ n5_ n6_ n7_ n8_ n9_ n10_ n11_ n12_ n13_ n14_ n15_ n16_ n17_ n18_
                                  have hHeld : w124.cell? ⟨gb225, 0, none⟩ = some (.int .i64 t223) ∧ w124.cell? ⟨gb225, 1, none⟩ = some (.int .i64 t224) := hS_
                                  refine norm_ (a' := ?_) ?_ ?_
                                  rotate_left
                                  · simp only [putAll, Act.put, List.setIfInBounds_toArray, List.set_cons_zero, List.set_cons_succ]
                                    rfl
                                  refine oA 10 none HT_ fun K hK => ?_
                                  have hs125 : w124.cell? ⟨gb262, 0, none⟩ = some (.int .i64 0) := (blk_cell BK262.out 0).trans rfl
                                  have hfs125 := blk_frozen BK262.out 0
                                  have hns125_0 := NB225_262.out
                                  have hns125_1 := NB228_262.out
                                  have hns125_2 := NB233_262.out
                                  have hns125_3 := NB247_262.out
                                  have hns125_4 := NB251_262.out
                                  have hms125_0 := NB262_225.out
                                  have hms125_1 := NB262_228.out
                                  have hms125_2 := NB262_233.out
                                  have hms125_3 := NB262_247.out
                                  have hms125_4 := NB262_251.out
                                  have hs126 : w124.cell? ⟨gb262, 1, none⟩ = some (.int .i64 0) := (blk_cell BK262.out 1).trans rfl
                                  have hfs126 := blk_frozen BK262.out 1
                                  have hns126_0 := NB225_262.out
                                  have hns126_1 := NB228_262.out
                                  have hns126_2 := NB233_262.out
                                  have hns126_3 := NB247_262.out
                                  have hns126_4 := NB251_262.out
                                  have hms126_0 := NB262_225.out
                                  have hms126_1 := NB262_228.out
                                  have hms126_2 := NB262_233.out
                                  have hms126_3 := NB262_247.out
                                  have hms126_4 := NB262_251.out
                                  refine skip_ (w1 := ?_) (by rfl) rfl ?_ ?_
                                  rotate_left
                                  · go_simp
                                    rfl
                                  refine hK.out _ _ ⟨((cell_far (p := ⟨gb262, _, none⟩) NB225_262.out _).trans (((cell_far (p := ⟨gb262, _, none⟩) NB225_262.out _).trans (hHeld.1)))), ((cell_far (p := ⟨gb262, _, none⟩) NB225_262.out _).trans (((cell_far (p := ⟨gb262, _, none⟩) NB225_262.out _).trans (hHeld.2))))⟩ (fun hHeld => ?_)
                                  clear hK K
                                  refine pA 11 (some 24) HT_ ?_
                                  refine pA 12 (some 25) HT_ ?_
                                  refine done_ (done_of HT_.out (by kernel_rfl)) ?_
                                  try go_wp2
                                  have n0_ : Aside0 (((w124.setCell ⟨gb262, 0, none⟩ (.int .i64 t258)).setCell ⟨gb262, 1, none⟩ (.int .i64 t259)).heap[gb225]? = some (.cells #[.int .i64 t223, .int .i64 t224] 28 (0, 0))) := ⟨hq BK225.out (.c NB225_262.out .n)⟩
                                  have n1_ : Aside0 (((w124.setCell ⟨gb262, 0, none⟩ (.int .i64 t258)).setCell ⟨gb262, 1, none⟩ (.int .i64 t259)).heap[gb228]? = some (.cells #[.int .i64 t226, .int .i64 t227] 28 (0, 0))) := ⟨hq BK228.out (.c NB228_262.out .n)⟩
                                  have n2_ : Aside0 (((w124.setCell ⟨gb262, 0, none⟩ (.int .i64 t258)).setCell ⟨gb262, 1, none⟩ (.int .i64 t259)).heap[gb233]? = some (.cells #[.int .i64 t230, .int .i64 t231] 28 (0, 0))) := ⟨hq BK233.out (.c NB233_262.out .n)⟩
                                  have n3_ : Aside0 (((w124.setCell ⟨gb262, 0, none⟩ (.int .i64 t258)).setCell ⟨gb262, 1, none⟩ (.int .i64 t259)).heap[gb247]? = some (.cells #[.int .i64 t244, .int .i64 t245] 28 (0, 0))) := ⟨hq BK247.out (.c NB247_262.out .n)⟩
                                  have n4_ : Aside0 (((w124.setCell ⟨gb262, 0, none⟩ (.int .i64 t258)).setCell ⟨gb262, 1, none⟩ (.int .i64 t259)).heap[gb251]? = some (.cells #[.int .i64 t248, .int .i64 t249] 28 (0, 0))) := ⟨hq BK251.out (.c NB251_262.out .n)⟩
                                  have n5_ : Aside0 (((w124.setCell ⟨gb262, 0, none⟩ (.int .i64 t258)).setCell ⟨gb262, 1, none⟩ (.int .i64 t259)).heap[gb262]? = some (.cells #[.int .i64 t258, .int .i64 t259] 28 (0, 0))) := ⟨by refine hp ?_; refine blk_put (cs := #[.int .i64 t258, .int .i64 0]) ?_ 1 _ rfl; refine hp ?_; refine blk_put (cs := #[.int .i64 0, .int .i64 0]) ?_ 0 _ rfl; exact h0 BK262.out⟩
                                  have n6_ : Aside0 (Below w.heap.size w ((w124.setCell ⟨gb262, 0, none⟩ (.int .i64 t258)).setCell ⟨gb262, 1, none⟩ (.int .i64 t259))) := ⟨bq HB.out (.c GE225.out (.c GE228.out (.c GE233.out (.c GE247.out (.c GE251.out (.c GE262.out .n))))))⟩
                                  (try clear BK225)
                                  (try clear BK228)
                                  (try clear BK233)
                                  (try clear BK247)
                                  (try clear BK251)
                                  (try clear BK262)
                                  (try clear HB)
                                  generalize ((w124.setCell ⟨gb262, 0, none⟩ (.int .i64 t258)).setCell ⟨gb262, 1, none⟩ (.int .i64 t259)) = w127 at n0_ n1_ n2_ n3_ n4_ n5_ n6_ ⊢
                                  have BK225 := n0_
                                  have BK228 := n1_
                                  have BK233 := n2_
                                  have BK247 := n3_
                                  have BK251 := n4_
                                  have BK262 := n5_
                                  have HB := n6_
                                  clear n0_ n1_ n2_ n3_ n4_ n5_ n6_
                                  replace BK225 := Aside0.mk (blk_drew BK225.out)
                                  replace BK228 := Aside0.mk (blk_drew BK228.out)
                                  replace BK233 := Aside0.mk (blk_drew BK233.out)
                                  replace BK247 := Aside0.mk (blk_drew BK247.out)
                                  replace BK251 := Aside0.mk (blk_drew BK251.out)
                                  replace BK262 := Aside0.mk (blk_drew BK262.out)
                                  replace HB := Aside0.mk (below_drew1 HB.out)
                                  refine start_ (n := 55) (S := fun w' => w'.cell? ⟨gb262, 0, none⟩ = some (.int .i64 t258) ∧ w'.cell? ⟨gb262, 1, none⟩ = some (.int .i64 t259) ∧ w'.cell? ⟨gb225, 0, none⟩ = some (.int .i64 t223) ∧ w'.cell? ⟨gb225, 1, none⟩ = some (.int .i64 t224)) (ds := []) #[false, false, false, false, false, false, false, false, false, false, false, false, false, false, false, false, false, false, false, false, false, false, false, false, false, false, false, false, false, false, false, false, false, false, false, false, false, false, false, false, false, false, false, false, false, false, false, false, false, false, false, false, false, false, false] (by kernel_rfl) rfl rfl ⟨(blk_cell BK262.out 0).trans rfl, (blk_cell BK262.out 1).trans rfl, (blk_cell BK225.out 0).trans rfl, (blk_cell BK225.out 1).trans rfl⟩ (fun hHeld => ?_); refine with_tabW laws_FnPoints.tab18 laws_FnPoints.bits18 (fun HT_ HW_ => ?_)
                                  generalize w127.drew = w128 at BK225 BK228 BK233 BK247 BK251 BK262 HB hHeld ⊢
                                  refine pA 0 (some 136) HT_ ?_
                                  refine pA 1 (some 137) HT_ ?_
                                  refine pA 2 (some 138) HT_ ?_
                                  refine pA 3 (some 139) HT_ ?_
                                  refine pA 4 (some 140) HT_ ?_
                                  refine pA 5 (some 141) HT_ ?_
                                  refine pA 6 (some 142) HT_ ?_
                                  refine pA 7 (some 143) HT_ ?_
                                  refine pA 8 (some 144) HT_ ?_
                                  refine pA 9 (some 145) HT_ ?_
                                  refine pA 10 (some 146) HT_ ?_
                                  refine pA 11 (some 147) HT_ ?_
                                  refine pA 12 (some 148) HT_ ?_
                                  refine pA 13 (some 149) HT_ ?_
                                  refine pA 14 (some 150) HT_ ?_
                                  refine pA 15 (some 151) HT_ ?_
                                  refine pA 16 (some 152) HT_ ?_
                                  refine pA 17 (some 153) HT_ ?_
                                  refine pA 18 (some 154) HT_ ?_
                                  refine pA 19 (some 155) HT_ ?_
                                  refine pA 20 (some 156) HT_ ?_
                                  refine pA 21 (some 157) HT_ ?_
                                  refine pA 22 (some 158) HT_ ?_
                                  refine pA 23 (some 159) HT_ ?_
                                  refine pA 24 (some 160) HT_ ?_
                                  refine pA 25 (some 161) HT_ ?_
                                  refine pA 26 (some 162) HT_ ?_
                                  refine pA 28 (some 164) HT_ ?_
                                  refine pA 32 (some 168) HT_ ?_
                                  refine tA 27 (some 163) HT_ HW_ hHeld ?_
                                  refine tA 29 (some 165) HT_ HW_ hHeld ?_
                                  refine pA 30 (some 166) HT_ ?_
                                  refine oA 31 (some 167) HT_ fun K hK => ?_
                                  refine gs Tryz.func33 #[.int .i64 (wrap64 (t258 - t223))] rfl ?_
                                  with_reducible refine (laws_d8Size.calls (wrap64 (t258 - t223)) t263 _ A93.out).mono ?_
                                  rintro e w' ⟨rfl, ⟨nd, rfl⟩⟩
                                  refine ⟨_, rfl, ?_⟩
                                  refine hK.out _ _ ⟨(blk_cell BK262.out 0).trans rfl, (blk_cell BK262.out 1).trans rfl, (blk_cell BK225.out 0).trans rfl, (blk_cell BK225.out 1).trans rfl⟩ (fun hHeld => ?_)
                                  clear hK K
                                  refine nA (some 167) ?_
                                  refine pA 33 (some 169) HT_ ?_
                                  refine pA 34 (some 170) HT_ ?_
                                  refine pA 35 (some 171) HT_ ?_
                                  refine pA 36 (some 172) HT_ ?_
                                  refine pA 38 (some 174) HT_ ?_
                                  refine pA 43 (some 179) HT_ ?_
                                  refine tA 37 (some 173) HT_ HW_ hHeld ?_
                                  refine tA 39 (some 175) HT_ HW_ hHeld ?_
                                  refine pA 40 (some 176) HT_ ?_
                                  refine oA 41 (some 177) HT_ fun K hK => ?_
                                  refine gs Tryz.func27 #[.int .i64 (wrap64 (t259 - t224))] rfl ?_
                                  with_reducible refine (impl_WrapLon.calls (wrap64 (t259 - t224)) t264 _ A95.out).mono ?_
                                  rintro e w129 ⟨rfl, hb⟩
                                  refine ⟨_, rfl, ?_⟩
                                  replace BK225 := Aside0.mk (blk_below (h0 BK225.out) hb)
                                  replace BK228 := Aside0.mk (blk_below (h0 BK228.out) hb)
                                  replace BK233 := Aside0.mk (blk_below (h0 BK233.out) hb)
                                  replace BK247 := Aside0.mk (blk_below (h0 BK247.out) hb)
                                  replace BK251 := Aside0.mk (blk_below (h0 BK251.out) hb)
                                  replace BK262 := Aside0.mk (blk_below (h0 BK262.out) hb)
                                  replace HB := Aside0.mk (below_step (bq HB.out (.c GE225.out (.c GE228.out (.c GE233.out (.c GE247.out (.c GE251.out (.c GE262.out .n))))))) hb)
                                  (try clear hb)
                                  (try clear hb2)
                                  (try clear hk)
                                  (try clear hi)
                                  refine hK.out _ _ ⟨(blk_cell BK262.out 0).trans rfl, (blk_cell BK262.out 1).trans rfl, (blk_cell BK225.out 0).trans rfl, (blk_cell BK225.out 1).trans rfl⟩ (fun hHeld => ?_)
                                  clear hK K
                                  refine nA (some 177) ?_
                                  refine oA 42 (some 178) HT_ fun K hK => ?_
                                  refine gs Tryz.func33 #[.int .i64 t264] rfl ?_
                                  with_reducible refine (laws_d8Size.calls t264 t265 _ A96.out).mono ?_
                                  rintro e w' ⟨rfl, ⟨nd, rfl⟩⟩
                                  refine ⟨_, rfl, ?_⟩
                                  refine hK.out _ _ ⟨(blk_cell BK262.out 0).trans rfl, (blk_cell BK262.out 1).trans rfl, (blk_cell BK225.out 0).trans rfl, (blk_cell BK225.out 1).trans rfl⟩ (fun hHeld => ?_)
                                  clear hK K
                                  refine nA (some 178) ?_
                                  refine pA 44 (some 180) HT_ ?_
                                  refine pA 45 (some 181) HT_ ?_
                                  refine pA 46 (some 182) HT_ ?_
                                  refine tA 47 (some 183) HT_ HW_ hHeld ?_
                                  refine tA 49 (some 185) HT_ HW_ hHeld ?_
                                  refine tA 51 (some 187) HT_ HW_ hHeld ?_
                                  refine oA 48 (some 184) HT_ fun K hK => ?_
                                  refine gs Tryz.func31 #[.agg #[.int .i64 t223, .int .i64 t224]] rfl ?_
                                  with_reducible refine (impl_LatOf.calls t223 t224 t266 t267 _ A98.out).mono ?_
                                  rintro e w130 ⟨rfl, hb⟩
                                  refine ⟨_, rfl, ?_⟩
                                  replace BK225 := Aside0.mk (blk_below (h0 BK225.out) hb)
                                  replace BK228 := Aside0.mk (blk_below (h0 BK228.out) hb)
                                  replace BK233 := Aside0.mk (blk_below (h0 BK233.out) hb)
                                  replace BK247 := Aside0.mk (blk_below (h0 BK247.out) hb)
                                  replace BK251 := Aside0.mk (blk_below (h0 BK251.out) hb)
                                  replace BK262 := Aside0.mk (blk_below (h0 BK262.out) hb)
                                  replace HB := Aside0.mk (below_step (bq HB.out (.c GE225.out (.c GE228.out (.c GE233.out (.c GE247.out (.c GE251.out (.c GE262.out .n))))))) hb)
                                  (try clear hb)
                                  (try clear hb2)
                                  (try clear hk)
                                  (try clear hi)
                                  refine hK.out _ _ ⟨(blk_cell BK262.out 0).trans rfl, (blk_cell BK262.out 1).trans rfl, (blk_cell BK225.out 0).trans rfl, (blk_cell BK225.out 1).trans rfl⟩ (fun hHeld => ?_)
                                  clear hK K
                                  refine nA (some 184) ?_
                                  refine oA 50 (some 186) HT_ fun K hK => ?_
                                  refine gs Tryz.func32 #[.agg #[.int .i64 t223, .int .i64 t224]] rfl ?_
                                  with_reducible refine (impl_LonOf.calls t223 t224 t268 t269 _ A99.out).mono ?_
                                  rintro e w131 ⟨rfl, hb⟩
                                  refine ⟨_, rfl, ?_⟩
                                  replace BK225 := Aside0.mk (blk_below (h0 BK225.out) hb)
                                  replace BK228 := Aside0.mk (blk_below (h0 BK228.out) hb)
                                  replace BK233 := Aside0.mk (blk_below (h0 BK233.out) hb)
                                  replace BK247 := Aside0.mk (blk_below (h0 BK247.out) hb)
                                  replace BK251 := Aside0.mk (blk_below (h0 BK251.out) hb)
                                  replace BK262 := Aside0.mk (blk_below (h0 BK262.out) hb)
                                  replace HB := Aside0.mk (below_step (bq HB.out (.c GE225.out (.c GE228.out (.c GE233.out (.c GE247.out (.c GE251.out (.c GE262.out .n))))))) hb)
                                  (try clear hb)
                                  (try clear hb2)
                                  (try clear hk)
                                  (try clear hi)
                                  refine hK.out _ _ ⟨(blk_cell BK262.out 0).trans rfl, (blk_cell BK262.out 1).trans rfl, (blk_cell BK225.out 0).trans rfl, (blk_cell BK225.out 1).trans rfl⟩ (fun hHeld => ?_)
                                  clear hK K
                                  refine nA (some 186) ?_
                                  refine oA 52 (some 188) HT_ fun K hK => ?_
                                  refine gs Tryz.func34 #[.agg #[.int .i64 t266, .int .i64 t267], .agg #[.int .i64 t268, .int .i64 t269], .agg #[.int .i64 t223, .int .i64 t224]] rfl ?_
                                  with_reducible refine (impl_AtPoint.calls t266 t267 t268 t269 t223 t224 t270 _ A100.out).mono ?_
                                  rintro e w132 ⟨rfl, hb⟩
                                  refine ⟨_, rfl, ?_⟩
                                  replace BK225 := Aside0.mk (blk_below (h0 BK225.out) hb)
                                  replace BK228 := Aside0.mk (blk_below (h0 BK228.out) hb)
                                  replace BK233 := Aside0.mk (blk_below (h0 BK233.out) hb)
                                  replace BK247 := Aside0.mk (blk_below (h0 BK247.out) hb)
                                  replace BK251 := Aside0.mk (blk_below (h0 BK251.out) hb)
                                  replace BK262 := Aside0.mk (blk_below (h0 BK262.out) hb)
                                  replace HB := Aside0.mk (below_step (bq HB.out (.c GE225.out (.c GE228.out (.c GE233.out (.c GE247.out (.c GE251.out (.c GE262.out .n))))))) hb)
                                  (try clear hb)
                                  (try clear hb2)
                                  (try clear hk)
                                  (try clear hi)
                                  refine hK.out _ _ ⟨(blk_cell BK262.out 0).trans rfl, (blk_cell BK262.out 1).trans rfl, (blk_cell BK225.out 0).trans rfl, (blk_cell BK225.out 1).trans rfl⟩ (fun hHeld => ?_)
                                  clear hK K
                                  refine nA (some 188) ?_
                                  refine pA 53 (some 189) HT_ ?_
                                  refine pA 54 (some 4) HT_ ?_
                                  refine done_ (done_of HT_.out (by kernel_rfl)) ?_
                                  try go_wp2
                                  go_ret
                                  exact ⟨by first | rfl | (simp [errW_none, errW_some] <;> rfl) | (simp [*, errW_none, errW_some] <;> rfl), bq HB.out (.c GE225.out (.c GE228.out (.c GE233.out (.c GE247.out (.c GE251.out (.c GE262.out .n))))))⟩
                                · rw [if_neg c97] at H
                                  have c97b0 : decide (t265 ≤ t260) = false := decide_eq_false c97
                                  clear c97
                                  exact absurd ((Option.some.inj H).trans HR_.out) Bool.false_ne_true
                              · rw [if_neg c94] at H
                                have c94b0 : decide (t263 ≤ t260) = false := decide_eq_false c94
                                clear c94
                                exact absurd ((Option.some.inj H).trans HR_.out) Bool.false_ne_true
                            · rw [if_neg c92] at H
                              have c92b0 : decide (t260 ≤ 2) = false := decide_eq_false c92
                              clear c92
                              exact absurd ((Option.some.inj H).trans HR_.out) Bool.false_ne_true
                          · rw [if_neg c91] at H
                            have c91b0 : decide (0 ≤ t260) = false := decide_eq_false c91
                            clear c91
                            exact absurd ((Option.some.inj H).trans HR_.out) Bool.false_ne_true
                        · rw [if_neg c90] at H
                          have c90b0 : (t261 == 0) = false := beq_eq_false_iff_ne.mpr c90
                          have c90b1 : (t261 != 0) = true := bne_iff_ne.mpr c90
                          exact absurd ((Option.some.inj H).trans HR_.out) Bool.false_ne_true
                      · replace c89 := Bool.eq_false_iff.mpr c89
                        subst c89
                        have H1 : (some false) = some r := by rw [if_neg (show ¬ (false = true) by decide)] at H; exact H
                        clear H
                        have H := H1
                        clear H1
                        exact absurd ((Option.some.inj H).trans HR_.out) Bool.false_ne_true
                    · rw [if_neg c88] at H
                      have c88b0 : (t253 == 0) = false := beq_eq_false_iff_ne.mpr c88
                      have c88b1 : (t253 != 0) = true := bne_iff_ne.mpr c88
                      exact absurd ((Option.some.inj H).trans HR_.out) Bool.false_ne_true
                  · rw [if_neg c87] at H
                    have c87b0 : (t250 == 0) = false := beq_eq_false_iff_ne.mpr c87
                    have c87b1 : (t250 != 0) = true := bne_iff_ne.mpr c87
                    exact absurd ((Option.some.inj H).trans HR_.out) Bool.false_ne_true
                · rw [if_neg c86] at H
                  have c86b0 : (t246 == 0) = false := beq_eq_false_iff_ne.mpr c86
                  have c86b1 : (t246 != 0) = true := bne_iff_ne.mpr c86
                  exact absurd ((Option.some.inj H).trans HR_.out) Bool.false_ne_true
end Go.Proofs.YtogpbandlpjccaaGreatDoor.TX
