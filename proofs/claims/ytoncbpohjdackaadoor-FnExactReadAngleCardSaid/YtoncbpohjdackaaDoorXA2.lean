/- The machine walks these functions as the plain functions say; written by a program of this session out of the translation, with contracts of the library's functions of our own. -/
import Derived.Test.YtoncbpohjdackaaDoorXA0
import Derived.Test.YtoncbpohjdackaaDoorXA1
namespace Go.Proofs.YtoncbpohjdackaaDoor.TX
open Go.RowKit Go.Proofs.YtoncbpohjdackaaDoorW.PrintWords Go.Proofs.YtoncbpohjdackaaDoorW.PrintLast Go.Proofs.YtoncbpohjdackaaDoorW.PrintMore
attribute [local go_sem] max2_int min2_int max_two min_two max_three min_three max_four min_four   -- for this text's walks alone
set_option linter.unusedVariables false
set_option linter.unusedSimpArgs false

/-! ### spec_ReadAngle: function 20 -/
mutual
def spec_ReadAngle.j0 : Nat → ByteArray → ByteArray → Bool → Option (Int × Bool)
  | 0, _, _, _ => none
  | k + 1, x0, x4, x23 => if x23 = true then (if 1 ≤ (x4.size : Int) then (spec_ReadAngle.j1 k x0 (x4.extract 1 x4.size)) else (none)) else (spec_ReadAngle.j1 k x0 x4)
def spec_ReadAngle.j1 : Nat → ByteArray → ByteArray → Option (Int × Bool)
  | 0, _, _ => none
  | k + 1, x0, x4 => (spec_l01Split.f k x4 100).bind fun t132 => (if (t132.length : Int) = 2 then (if 1 < (t132.length : Int) then ((spec_l01Split.f k (rdOf ByteArray.empty t132 1) 109).bind fun t136 => (if (t136.length : Int) = 2 then (if 1 < (t136.length : Int) then (spec_ReadAngle.j2 k x0 x4 t132 t136 (((rdOf ByteArray.empty t136 1).size : Int) != 9)) else (none)) else (spec_ReadAngle.j2 k x0 x4 t132 t136 true))) else (none)) else (some (0, false)))
def spec_ReadAngle.j2 : Nat → ByteArray → ByteArray → List ByteArray → List ByteArray → Bool → Option (Int × Bool)
  | 0, _, _, _, _, _ => none
  | k + 1, x0, x4, x5, x6, x44 => if x44 = true then (some (0, false)) else (if 0 < (x5.length : Int) then ((spec_l11Number.f k (rdOf ByteArray.empty x5 0)).bind fun bt141 => (if 0 < (x6.length : Int) then ((spec_l11Number.f k (rdOf ByteArray.empty x6 0)).bind fun bt144 => (if 1 < (x6.length : Int) then (if 0 ≤ 2 then (if 2 ≤ ((rdOf ByteArray.empty x6 1).size : Int) then ((spec_l11Number.f k ((rdOf ByteArray.empty x6 1).extract 0 2)).bind fun bt147 => (if 3 ≤ 8 then (if 8 ≤ ((rdOf ByteArray.empty x6 1).size : Int) then ((spec_l11Number.f k ((rdOf ByteArray.empty x6 1).extract 3 8)).bind fun bt150 => (if bt141.2 = true then (if bt144.2 = true then (if bt147.2 = true then (if bt150.2 = true then (spec_ReadAngle.j3 k x0 x4 bt141.1 bt144.1 bt147.1 bt150.1 (decide (bt141.1 > 180))) else (spec_ReadAngle.j3 k x0 x4 bt141.1 bt144.1 bt147.1 bt150.1 true)) else (spec_ReadAngle.j3 k x0 x4 bt141.1 bt144.1 bt147.1 bt150.1 true)) else (spec_ReadAngle.j3 k x0 x4 bt141.1 bt144.1 bt147.1 bt150.1 true)) else (spec_ReadAngle.j3 k x0 x4 bt141.1 bt144.1 bt147.1 bt150.1 true))) else (none)) else (none))) else (none)) else (none)) else (none))) else (none))) else (none))
def spec_ReadAngle.j3 : Nat → ByteArray → ByteArray → Int → Int → Int → Int → Bool → Option (Int × Bool)
  | 0, _, _, _, _, _, _, _ => none
  | k + 1, x0, x4, x7, x9, x11, x13, x92 => if x92 = true then (some (0, false)) else (if (x4.size : Int) < (x0.size : Int) then (if (wrap64 (-(wrap64 ((wrap64 (x7 * 10000000)) + (wrap64 (Int.tdiv (wrap64 ((wrap64 ((wrap64 (x9 * 6000000)) + (wrap64 (x11 * 100000)))) + x13)) 36)))))) < (-1800000000) then (some (0, false)) else (if (wrap64 (-(wrap64 ((wrap64 (x7 * 10000000)) + (wrap64 (Int.tdiv (wrap64 ((wrap64 ((wrap64 (x9 * 6000000)) + (wrap64 (x11 * 100000)))) + x13)) 36)))))) > 1800000000 then (some (0, false)) else ((spec_l11Parts.f k (wrap64 (-(wrap64 ((wrap64 (x7 * 10000000)) + (wrap64 (Int.tdiv (wrap64 ((wrap64 ((wrap64 (x9 * 6000000)) + (wrap64 (x11 * 100000)))) + x13)) 36))))))).bind fun t152 => (if t152.toList = x0.toList then (some (wrap64 (-(wrap64 ((wrap64 (x7 * 10000000)) + (wrap64 (Int.tdiv (wrap64 ((wrap64 ((wrap64 (x9 * 6000000)) + (wrap64 (x11 * 100000)))) + x13)) 36))))), true)) else (some (0, false)))))) else (if (wrap64 ((wrap64 (x7 * 10000000)) + (wrap64 (Int.tdiv (wrap64 ((wrap64 ((wrap64 (x9 * 6000000)) + (wrap64 (x11 * 100000)))) + x13)) 36)))) < (-1800000000) then (some (0, false)) else (if (wrap64 ((wrap64 (x7 * 10000000)) + (wrap64 (Int.tdiv (wrap64 ((wrap64 ((wrap64 (x9 * 6000000)) + (wrap64 (x11 * 100000)))) + x13)) 36)))) > 1800000000 then (some (0, false)) else ((spec_l11Parts.f k (wrap64 ((wrap64 (x7 * 10000000)) + (wrap64 (Int.tdiv (wrap64 ((wrap64 ((wrap64 (x9 * 6000000)) + (wrap64 (x11 * 100000)))) + x13)) 36))))).bind fun t153 => (if t153.toList = x0.toList then (some (wrap64 ((wrap64 (x7 * 10000000)) + (wrap64 (Int.tdiv (wrap64 ((wrap64 ((wrap64 (x9 * 6000000)) + (wrap64 (x11 * 100000)))) + x13)) 36))), true)) else (some (0, false)))))))
end
def spec_ReadAngle.f (k : Nat) (a0 : ByteArray) : Option (Int × Bool) := if a0.toList = ([] : List UInt8) then (spec_ReadAngle.j0 k a0 a0 false) else (if 0 < (a0.size : Int) then (spec_ReadAngle.j0 k a0 a0 ((bt a0 0) == 45)) else (none))
theorem spec_ReadAngle.mono_l : ∀ k, (∀ y0 y1 y2, LeO (spec_ReadAngle.j0 k y0 y1 y2) (spec_ReadAngle.j0 (k + 1) y0 y1 y2)) ∧ (∀ y0 y1, LeO (spec_ReadAngle.j1 k y0 y1) (spec_ReadAngle.j1 (k + 1) y0 y1)) ∧ (∀ y0 y1 y2 y3 y4, LeO (spec_ReadAngle.j2 k y0 y1 y2 y3 y4) (spec_ReadAngle.j2 (k + 1) y0 y1 y2 y3 y4)) ∧ (∀ y0 y1 y2 y3 y4 y5 y6, LeO (spec_ReadAngle.j3 k y0 y1 y2 y3 y4 y5 y6) (spec_ReadAngle.j3 (k + 1) y0 y1 y2 y3 y4 y5 y6))
  | 0 => ⟨fun _ _ _ r h => by simp [spec_ReadAngle.j0] at h, fun _ _ r h => by simp [spec_ReadAngle.j1] at h, fun _ _ _ _ _ r h => by simp [spec_ReadAngle.j2] at h, fun _ _ _ _ _ _ _ r h => by simp [spec_ReadAngle.j3] at h⟩
  | k + 1 => by
    obtain ⟨ih0, ih1, ih2, ih3⟩ := spec_ReadAngle.mono_l k
    refine ⟨?_, ?_, ?_, ?_⟩
    · intro y0 y1 y2
      unfold spec_ReadAngle.j0
      repeat' first
      | (with_reducible exact ih0 _ _ _)
      | (with_reducible exact ih1 _ _)
      | (with_reducible exact ih2 _ _ _ _ _)
      | (with_reducible exact ih3 _ _ _ _ _ _ _)
      | (with_reducible exact spec_l01Split.mono _ _ _)
      | (with_reducible exact spec_l11Number.mono _ _)
      | (with_reducible exact spec_l11Parts.mono _ _)
      | (with_reducible exact LeO.refl _)
      | (with_reducible exact LeO.none _)
      | (with_reducible refine LeO.ite ?_ ?_)
      | (with_reducible refine LeO.bind ?_ (fun _ => ?_))
      | exact ih0 _ _ _
      | exact ih1 _ _
      | exact ih2 _ _ _ _ _
      | exact ih3 _ _ _ _ _ _ _
      | exact spec_l01Split.mono _ _ _
      | exact spec_l11Number.mono _ _
      | exact spec_l11Parts.mono _ _
      | exact LeO.none _
      | refine LeO.ite ?_ ?_
      | refine LeO.bind ?_ (fun _ => ?_)
    · intro y0 y1
      unfold spec_ReadAngle.j1
      repeat' first
      | (with_reducible exact ih0 _ _ _)
      | (with_reducible exact ih1 _ _)
      | (with_reducible exact ih2 _ _ _ _ _)
      | (with_reducible exact ih3 _ _ _ _ _ _ _)
      | (with_reducible exact spec_l01Split.mono _ _ _)
      | (with_reducible exact spec_l11Number.mono _ _)
      | (with_reducible exact spec_l11Parts.mono _ _)
      | (with_reducible exact LeO.refl _)
      | (with_reducible exact LeO.none _)
      | (with_reducible refine LeO.ite ?_ ?_)
      | (with_reducible refine LeO.bind ?_ (fun _ => ?_))
      | exact ih0 _ _ _
      | exact ih1 _ _
      | exact ih2 _ _ _ _ _
      | exact ih3 _ _ _ _ _ _ _
      | exact spec_l01Split.mono _ _ _
      | exact spec_l11Number.mono _ _
      | exact spec_l11Parts.mono _ _
      | exact LeO.none _
      | refine LeO.ite ?_ ?_
      | refine LeO.bind ?_ (fun _ => ?_)
    · intro y0 y1 y2 y3 y4
      unfold spec_ReadAngle.j2
      repeat' first
      | (with_reducible exact ih0 _ _ _)
      | (with_reducible exact ih1 _ _)
      | (with_reducible exact ih2 _ _ _ _ _)
      | (with_reducible exact ih3 _ _ _ _ _ _ _)
      | (with_reducible exact spec_l01Split.mono _ _ _)
      | (with_reducible exact spec_l11Number.mono _ _)
      | (with_reducible exact spec_l11Parts.mono _ _)
      | (with_reducible exact LeO.refl _)
      | (with_reducible exact LeO.none _)
      | (with_reducible refine LeO.ite ?_ ?_)
      | (with_reducible refine LeO.bind ?_ (fun _ => ?_))
      | exact ih0 _ _ _
      | exact ih1 _ _
      | exact ih2 _ _ _ _ _
      | exact ih3 _ _ _ _ _ _ _
      | exact spec_l01Split.mono _ _ _
      | exact spec_l11Number.mono _ _
      | exact spec_l11Parts.mono _ _
      | exact LeO.none _
      | refine LeO.ite ?_ ?_
      | refine LeO.bind ?_ (fun _ => ?_)
    · intro y0 y1 y2 y3 y4 y5 y6
      unfold spec_ReadAngle.j3
      repeat' first
      | (with_reducible exact ih0 _ _ _)
      | (with_reducible exact ih1 _ _)
      | (with_reducible exact ih2 _ _ _ _ _)
      | (with_reducible exact ih3 _ _ _ _ _ _ _)
      | (with_reducible exact spec_l01Split.mono _ _ _)
      | (with_reducible exact spec_l11Number.mono _ _)
      | (with_reducible exact spec_l11Parts.mono _ _)
      | (with_reducible exact LeO.refl _)
      | (with_reducible exact LeO.none _)
      | (with_reducible refine LeO.ite ?_ ?_)
      | (with_reducible refine LeO.bind ?_ (fun _ => ?_))
      | exact ih0 _ _ _
      | exact ih1 _ _
      | exact ih2 _ _ _ _ _
      | exact ih3 _ _ _ _ _ _ _
      | exact spec_l01Split.mono _ _ _
      | exact spec_l11Number.mono _ _
      | exact spec_l11Parts.mono _ _
      | exact LeO.none _
      | refine LeO.ite ?_ ?_
      | refine LeO.bind ?_ (fun _ => ?_)
theorem spec_ReadAngle.mono : ∀ a0 k, LeO (spec_ReadAngle.f k a0) (spec_ReadAngle.f (k + 1) a0) := by
  intro a0 k
  obtain ⟨ih0, ih1, ih2, ih3⟩ := spec_ReadAngle.mono_l k
  unfold spec_ReadAngle.f
  repeat' first
      | (with_reducible exact ih0 _ _ _)
      | (with_reducible exact ih1 _ _)
      | (with_reducible exact ih2 _ _ _ _ _)
      | (with_reducible exact ih3 _ _ _ _ _ _ _)
      | (with_reducible exact spec_l01Split.mono _ _ _)
      | (with_reducible exact spec_l11Number.mono _ _)
      | (with_reducible exact spec_l11Parts.mono _ _)
      | (with_reducible exact LeO.refl _)
      | (with_reducible exact LeO.none _)
      | (with_reducible refine LeO.ite ?_ ?_)
      | (with_reducible refine LeO.bind ?_ (fun _ => ?_))
      | exact ih0 _ _ _
      | exact ih1 _ _
      | exact ih2 _ _ _ _ _
      | exact ih3 _ _ _ _ _ _ _
      | exact spec_l01Split.mono _ _ _
      | exact spec_l11Number.mono _ _
      | exact spec_l11Parts.mono _ _
      | exact LeO.none _
      | refine LeO.ite ?_ ?_
      | refine LeO.bind ?_ (fun _ => ?_)
set_option maxHeartbeats 8000000 in
set_option maxRecDepth 100000 in
theorem spec_ReadAngle.calls (k : Nat) (a0 : ByteArray) (r1 : Int) (r2 : Bool) (w : World) (h : spec_ReadAngle.f k a0 = some (r1, r2)) :
    Calls Tryd.prog 20 #[.string a0] w fun e w' => e = .returned (.tuple #[.int .i64 r1, .bool r2]) ∧ Below w.heap.size w w' := by
  have HB := Aside0.mk (Below.refl w.heap.size w)
  have H : (if a0.toList = ([] : List UInt8) then (spec_ReadAngle.j0 k a0 a0 false) else (if 0 < (a0.size : Int) then (spec_ReadAngle.j0 k a0 a0 ((bt a0 0) == 45)) else (none))) = some (r1, r2) := h
  clear h
  have HC2 := Aside0.mk H
  clear H
  go_enter Tryd.func20, Tryd.ntmps20
  go_upto_region 2 with (fail)
  go_cut [23] (fun v23 wc => ∃ (kq : Nat) (x23_1 : Bool), v23 = .bool x23_1 ∧ Aside0 (spec_ReadAngle.j0 kq a0 a0 x23_1 = some (r1, r2)) ∧ Aside0 (kq ≤ k) ∧ Aside0 (Below w.heap.size w wc))
  case first =>
    have H := HC2.out
    clear HC2
    by_cases c3 : a0.toList = ([] : List UInt8)
    · rw [if_pos c3] at H
      have c3b0 : (a0.toList == ([] : List UInt8)) = true := beq_iff_eq.mpr c3
      have c3b1 : (a0.toList != ([] : List UInt8)) = false := bne_eq_false_iff_eq.mpr c3
      clear c3
      (first | rw [c3b0] | (simp only [i64_w, i32_w]; rw [c3b0]) | skip)
      have H' := Aside0.mk H
      clear H
      go_wp2
      go_meet
      case rel => exact ⟨_, (false), (by first | rfl | (simp; done) | (simp [*]; done)), H', ⟨by first | omega | exact Nat.le_refl _⟩, ⟨by repeat (first | (with_reducible first | exact HB.out | apply below_alloc | apply pw_below_drewN | apply below_drew1) | exact HB.out)⟩⟩
    · rw [if_neg c3] at H
      have c3b0 : (a0.toList == ([] : List UInt8)) = false := beq_eq_false_iff_ne.mpr c3
      have c3b1 : (a0.toList != ([] : List UInt8)) = true := bne_iff_ne.mpr c3
      (first | rw [c3b0] | (simp only [i64_w, i32_w]; rw [c3b0]) | skip)
      by_cases c4 : 0 < (a0.size : Int)
      · rw [if_pos c4] at H
        have c4b0 : decide (0 < (a0.size : Int)) = true := decide_eq_true c4
        have c4b1 : decide (0 < a0.size) = true := decide_eq_true (by omega)
        clear c4
        have H' := Aside0.mk H
        clear H
        have p5 : 0 ≤ (0 : Int) := (by omega)
        have q5 : 0 < a0.size := (by have : (0 : Int) < (a0.size : Int) := of_decide_eq_true (by first | (with_reducible assumption) | assumption); omega)
        have hx5 : ∀ h : 0 < a0.size, ((a0[0]'h).toNat : Int) = bt a0 0 := bt_at a0 0
        clear p5
        have qi5 : (0 < (a0.size : Int)) = True := eq_true (of_decide_eq_true (by first | (with_reducible assumption) | assumption))
        replace q5 := eq_true q5
        go_wp2
        go_meet
        case rel => exact ⟨_, (((bt a0 0) == 45)), (by first | rfl | (simp; done) | (simp [*]; done)), H', ⟨by first | omega | exact Nat.le_refl _⟩, ⟨by repeat (first | (with_reducible first | exact HB.out | apply below_alloc | apply pw_below_drewN | apply below_drew1) | exact HB.out)⟩⟩
      · rw [if_neg c4] at H
        exact absurd H (by simp)
  case rest =>
    clear HC2
    try clear c2
    try clear p2
    try clear c3
    try clear c3b0
    try clear c3b1
    try clear c4
    try clear c4b0
    try clear c4b1
    try clear p5
    try clear q5
    try clear hx5
    try clear qi5
    try clear p5
    try clear q5
    obtain ⟨kq, x23_1, rfl, HA, HJ1, HB⟩ := hcut
    cases kq with
    | zero => exact absurd HA.out (by simp [spec_ReadAngle.j0])
    | succ kj1 =>
      have H := HA.out
      clear HA
      simp only [spec_ReadAngle.j0] at H
      have HC6 := Aside0.mk H
      clear H
      go_upto_if 23 with (fail)
      go_cut [4] (fun v4 wc => ∃ (kq : Nat) (x4_5 : ByteArray), v4 = .string x4_5 ∧ Aside0 (spec_ReadAngle.j1 kq a0 x4_5 = some (r1, r2)) ∧ Aside0 (kq ≤ kj1) ∧ Aside0 (Below w.heap.size w wc))
      case first =>
        have H := HC6.out
        clear HC6
        by_cases c7 : x23_1 = true
        · subst c7
          have H1 : (if 1 ≤ (a0.size : Int) then (spec_ReadAngle.j1 kj1 a0 (a0.extract 1 a0.size)) else (none)) = some (r1, r2) := by rw [if_pos rfl] at H; exact H
          clear H
          have H := H1
          clear H1
          by_cases c8 : 1 ≤ (a0.size : Int)
          · rw [if_pos c8] at H
            have c8b0 := eq_true c8
            have c8b1 : decide (1 ≤ (a0.size : Int)) = true := decide_eq_true c8
            clear c8
            have H' := Aside0.mk H
            clear H
            go_wp2
            go_meet
            case rel => exact ⟨_, (a0.extract 1 a0.size), (by first | rfl | (simp; done) | (simp [*]; done)), H', ⟨by have := HJ1.out; first | omega | exact Nat.le_refl _⟩, ⟨by repeat (first | (with_reducible first | exact HB.out | apply below_alloc | apply pw_below_drewN | apply below_drew1) | exact HB.out)⟩⟩
          · rw [if_neg c8] at H
            exact absurd H (by simp)
        · replace c7 := Bool.eq_false_iff.mpr c7
          subst c7
          have H1 : (spec_ReadAngle.j1 kj1 a0 a0) = some (r1, r2) := by rw [if_neg (show ¬ (false = true) by decide)] at H; exact H
          clear H
          have H := H1
          clear H1
          have H' := Aside0.mk H
          clear H
          go_wp2
          go_meet
          case rel => exact ⟨_, (a0), (by first | rfl | (simp; done) | (simp [*]; done)), H', ⟨by have := HJ1.out; first | omega | exact Nat.le_refl _⟩, ⟨by repeat (first | (with_reducible first | exact HB.out | apply below_alloc | apply pw_below_drewN | apply below_drew1) | exact HB.out)⟩⟩
      case rest =>
        clear HC6
        try clear c2
        try clear p2
        try clear c3
        try clear c3b0
        try clear c3b1
        try clear c4
        try clear c4b0
        try clear c4b1
        try clear p5
        try clear q5
        try clear hx5
        try clear qi5
        try clear c7
        try clear c8
        try clear c8b0
        try clear c8b1
        try clear p2
        try clear p5
        try clear q5
        obtain ⟨kq, x4_5, rfl, HA, HJ5, HB⟩ := hcut
        cases kq with
        | zero => exact absurd HA.out (by simp [spec_ReadAngle.j1])
        | succ kj5 =>
          have H := HA.out
          clear HA
          simp only [spec_ReadAngle.j1] at H
          replace H := Option.bind_eq_some_iff.mp H
          obtain ⟨t132, A90, H⟩ := H
          replace H : (if (t132.length : Int) = 2 then (if 1 < (t132.length : Int) then ((spec_l01Split.f kj5 (rdOf ByteArray.empty t132 1) 109).bind fun t136 => (if (t136.length : Int) = 2 then (if 1 < (t136.length : Int) then (spec_ReadAngle.j2 kj5 a0 x4_5 t132 t136 (((rdOf ByteArray.empty t136 1).size : Int) != 9)) else (none)) else (spec_ReadAngle.j2 kj5 a0 x4_5 t132 t136 true))) else (none)) else (some (0, false))) = some (r1, r2) := H
          have A9 := Aside0.mk A90
          clear A90
          by_cases c10 : (t132.length : Int) = 2
          · rw [if_pos c10] at H
            have c10b0 : ((t132.length : Int) == 2) = true := beq_iff_eq.mpr c10
            have c10b1 : ((t132.length : Int) != 2) = false := bne_eq_false_iff_eq.mpr c10
            clear c10
            by_cases c11 : 1 < (t132.length : Int)
            · rw [if_pos c11] at H
              have c11b0 : decide (1 < (t132.length : Int)) = true := decide_eq_true c11
              have c11b1 : decide (1 < t132.length) = true := decide_eq_true (by omega)
              clear c11
              replace H := Option.bind_eq_some_iff.mp H
              obtain ⟨t136, A120, H⟩ := H
              replace H : (if (t136.length : Int) = 2 then (if 1 < (t136.length : Int) then (spec_ReadAngle.j2 kj5 a0 x4_5 t132 t136 (((rdOf ByteArray.empty t136 1).size : Int) != 9)) else (none)) else (spec_ReadAngle.j2 kj5 a0 x4_5 t132 t136 true)) = some (r1, r2) := H
              have A12 := Aside0.mk A120
              clear A120
              have HC13 := Aside0.mk H
              clear H
              go_upto_region 8 with (first | ((with_reducible refine gate_callee (f := 37) rfl ?_); refine goesL_ (some 27) rfl rfl Tryd.func37 (by kernel_rfl) rfl #[.string x4_5, .int .u8 100] rfl (by (try simp only [List.map_toArray, List.map_cons, List.map_nil]); first | done | rfl | (simp only [List.length_drop, List.length_take]; rfl)) ?_; (with_reducible refine (spec_l01Split.calls kj5 x4_5 100 t132 _ A9.out).mono ?_); rintro e w14 ⟨v133, rfl, ho0, hb⟩; refine ⟨_, rfl, ?_⟩; have n0_ := Aside0.mk (Kd.R_lower ho0 (below_size (by repeat (first | (with_reducible first | exact HB.out | apply below_alloc | apply pw_below_drewN | apply below_drew1) | exact HB.out)))); have n1_ := Aside0.mk (below_step (by repeat (first | (with_reducible first | exact HB.out | apply below_alloc | apply pw_below_drewN | apply below_drew1) | exact HB.out)) hb); clear HB; have HO134 := n0_; have HB := n1_; clear n0_ n1_; (try clear hb); (try clear hb2); (try clear hk); (try clear hi); (try clear ho0); obtain ⟨Ao15, co15, eo15⟩ := Kd.R_slice HO134.out; subst eo15; have p135 : 0 ≤ (1 : Int) := (by omega); have q135 : 1 < (t132.length : Int) := of_decide_eq_true (by first | (with_reducible assumption) | assumption); obtain ⟨ad135, e135, hx135_0⟩ := Kd.at_string (Kd.R_reads' HO134.out).2.2 1 p135 q135; cases e135; (try simp only [show (1 : Int).toNat = 1 from rfl, Nat.reduceMul, Nat.reduceEqDiff, Go.Addr.add, ↓reduceIte] at hx135_0); have qi135 : (1 < t132.length) = True := eq_true (by omega); (try rw [show ((1 : Int)).toNat = 1 from rfl] at hx135_0); replace p135 := eq_true p135; replace q135 := eq_true q135) | ((with_reducible refine gate_callee (f := 37) rfl ?_); refine goesL_ (some 34) rfl rfl Tryd.func37 (by kernel_rfl) rfl #[.string (rdOf ByteArray.empty t132 1), .int .u8 109] rfl (by (try simp only [List.map_toArray, List.map_cons, List.map_nil]); first | done | rfl | (simp only [List.length_drop, List.length_take]; rfl)) ?_; (with_reducible refine (spec_l01Split.calls kj5 (rdOf ByteArray.empty t132 1) 109 t136 _ A12.out).mono ?_); rintro e w16 ⟨v137, rfl, ho0, hb⟩; refine ⟨_, rfl, ?_⟩; have n0_ := Aside0.mk (Kd.R_elder' (by (with_reducible repeat (first | apply Kd.R_alloc | apply Kd.R_drewN | apply Kd.R_drew)); exact HO134.out) (Kd.R_base ho0) hb); have n1_ := Aside0.mk (Kd.R_lower (Kd.R_new' ho0 (Kd.R_lt (by (with_reducible repeat (first | apply Kd.R_alloc | apply Kd.R_drewN | apply Kd.R_drew)); exact HO134.out))) (below_size (by repeat (first | (with_reducible first | exact HB.out | apply below_alloc | apply pw_below_drewN | apply below_drew1) | exact HB.out)))); have n2_ := Aside0.mk (below_step (by repeat (first | (with_reducible first | exact HB.out | apply below_alloc | apply pw_below_drewN | apply below_drew1) | exact HB.out)) hb); clear HO134; clear HB; have HO134 := n0_; have HO138 := n1_; have HB := n2_; clear n0_ n1_ n2_; (try clear hb); (try clear hb2); (try clear hk); (try clear hi); (try clear ho0)))
              (try simp only [Act.put, List.setIfInBounds_toArray, List.set_cons_zero, List.set_cons_succ])
              go_cut [44] (fun v44 wc => ∃ (kq : Nat) (x44_12 : Bool), v44 = .bool x44_12 ∧ Aside0 (spec_ReadAngle.j2 kq a0 x4_5 t132 t136 x44_12 = some (r1, r2)) ∧ Aside0 (kq ≤ kj5) ∧ Aside0 (Kd.R Kd.string 9 wc w.heap.size (fun k_ => some k_ ≠ (v137 : Value).ownBlock) (.slice (some ad135) t132.length co15) t132) ∧ Aside0 (Kd.R Kd.string 9 wc w.heap.size (fun k_ => some k_ ≠ ((.slice (some ad135) t132.length co15) : Value).ownBlock) v137 t136) ∧ Aside0 (Below w.heap.size w wc))
              case first =>
                have H := HC13.out
                clear HC13
                by_cases c17 : (t136.length : Int) = 2
                · rw [if_pos c17] at H
                  have c17b0 : ((t136.length : Int) == 2) = true := beq_iff_eq.mpr c17
                  have c17b1 : ((t136.length : Int) != 2) = false := bne_eq_false_iff_eq.mpr c17
                  clear c17
                  (first | rw [c17b0] | (simp only [i64_w, i32_w]; rw [c17b0]) | skip)
                  by_cases c18 : 1 < (t136.length : Int)
                  · rw [if_pos c18] at H
                    have c18b0 : decide (1 < (t136.length : Int)) = true := decide_eq_true c18
                    have c18b1 : decide (1 < t136.length) = true := decide_eq_true (by omega)
                    clear c18
                    have H' := Aside0.mk H
                    clear H
                    obtain ⟨Ao19, co19, eo19⟩ := Kd.R_slice HO138.out
                    subst eo19
                    have p139 : 0 ≤ (1 : Int) := (by omega)
                    have q139 : 1 < (t136.length : Int) := of_decide_eq_true (by first | (with_reducible assumption) | assumption)
                    obtain ⟨ad139, e139, hx139_0⟩ := Kd.at_string (Kd.R_reads' HO138.out).2.2 1 p139 q139
                    cases e139
                    (try simp only [show (1 : Int).toNat = 1 from rfl, Nat.reduceMul, Nat.reduceEqDiff, Go.Addr.add, ↓reduceIte] at hx139_0)
                    have qi139 : (1 < t136.length) = True := eq_true (by omega)
                    (try rw [show ((1 : Int)).toNat = 1 from rfl] at hx139_0)
                    replace p139 := eq_true p139
                    replace q139 := eq_true q139
                    go_wp2
                    go_meet
                    case rel => exact ⟨_, ((((rdOf ByteArray.empty t136 1).size : Int) != 9)), (by first | rfl | (simp; done) | (simp [*]; done)), H', ⟨by have := HJ1.out; have := HJ5.out; first | omega | exact Nat.le_refl _⟩, ⟨by (with_reducible repeat (first | apply Kd.R_alloc | apply Kd.R_drewN | apply Kd.R_drew)); exact Kd.R_mono HO134.out (fun _ hk => hk.2)⟩, ⟨by (with_reducible repeat (first | apply Kd.R_alloc | apply Kd.R_drewN | apply Kd.R_drew)); exact Kd.R_mono HO138.out (fun _ hk => hk.2)⟩, ⟨by repeat (first | (with_reducible first | exact HB.out | apply below_alloc | apply pw_below_drewN | apply below_drew1) | exact HB.out)⟩⟩
                  · rw [if_neg c18] at H
                    exact absurd H (by simp)
                · rw [if_neg c17] at H
                  have c17b0 : ((t136.length : Int) == 2) = false := beq_eq_false_iff_ne.mpr c17
                  have c17b1 : ((t136.length : Int) != 2) = true := bne_iff_ne.mpr c17
                  (first | rw [c17b0] | (simp only [i64_w, i32_w]; rw [c17b0]) | skip)
                  have H' := Aside0.mk H
                  clear H
                  obtain ⟨Ao20, co20, eo20⟩ := Kd.R_slice HO138.out
                  subst eo20
                  go_wp2
                  go_meet
                  case rel => exact ⟨_, (true), (by first | rfl | (simp; done) | (simp [*]; done)), H', ⟨by have := HJ1.out; have := HJ5.out; first | omega | exact Nat.le_refl _⟩, ⟨by (with_reducible repeat (first | apply Kd.R_alloc | apply Kd.R_drewN | apply Kd.R_drew)); exact Kd.R_mono HO134.out (fun _ hk => hk.2)⟩, ⟨by (with_reducible repeat (first | apply Kd.R_alloc | apply Kd.R_drewN | apply Kd.R_drew)); exact Kd.R_mono HO138.out (fun _ hk => hk.2)⟩, ⟨by repeat (first | (with_reducible first | exact HB.out | apply below_alloc | apply pw_below_drewN | apply below_drew1) | exact HB.out)⟩⟩
              case rest =>
                clear HC13
                try clear c1
                try clear p1
                try clear q1
                try clear hx1
                try clear qi1
                try clear c2
                try clear p2
                try clear c3
                try clear c3b0
                try clear c3b1
                try clear c4
                try clear c4b0
                try clear c4b1
                try clear p5
                try clear q5
                try clear hx5
                try clear qi5
                try clear c7
                try clear c8
                try clear c8b0
                try clear c8b1
                try clear c10
                try clear c10b0
                try clear c10b1
                try clear c11
                try clear c11b0
                try clear c11b1
                try clear p13
                try clear q13
                try clear hx13
                try clear qi13
                try clear c17
                try clear c17b0
                try clear c17b1
                try clear c18
                try clear c18b0
                try clear c18b1
                try clear c20
                try clear hx135_0
                try clear hx139_0
                try clear p135
                try clear p139
                try clear p2
                try clear p5
                try clear q135
                try clear q139
                try clear q5
                obtain ⟨kq, x44_12, rfl, HA, HJ12, HO_5, HO_6, HB⟩ := hcut
                cases kq with
                | zero => exact absurd HA.out (by simp [spec_ReadAngle.j2])
                | succ kj12 =>
                  have H := HA.out
                  clear HA
                  simp only [spec_ReadAngle.j2] at H
                  by_cases c21 : x44_12 = true
                  · subst c21
                    have H1 : (some (0, false)) = some (r1, r2) := by rw [if_pos rfl] at H; exact H
                    clear H
                    have H := H1
                    clear H1
                    simp only [Option.some.injEq, Prod.mk.injEq] at H
                    obtain ⟨rfl, rfl⟩ := H
                    go_wp2
                    go_ret2
                    exact ⟨by first | rfl | (simp [errW_none, errW_some] <;> rfl) | (simp [*, errW_none, errW_some] <;> rfl), by repeat (first | (with_reducible first | exact HB.out | apply below_alloc | apply pw_below_drewN | apply below_drew1) | exact HB.out)⟩
                  · replace c21 := Bool.eq_false_iff.mpr c21
                    subst c21
                    have H1 : (if 0 < (t132.length : Int) then ((spec_l11Number.f kj12 (rdOf ByteArray.empty t132 0)).bind fun bt141 => (if 0 < (t136.length : Int) then ((spec_l11Number.f kj12 (rdOf ByteArray.empty t136 0)).bind fun bt144 => (if 1 < (t136.length : Int) then (if 0 ≤ 2 then (if 2 ≤ ((rdOf ByteArray.empty t136 1).size : Int) then ((spec_l11Number.f kj12 ((rdOf ByteArray.empty t136 1).extract 0 2)).bind fun bt147 => (if 3 ≤ 8 then (if 8 ≤ ((rdOf ByteArray.empty t136 1).size : Int) then ((spec_l11Number.f kj12 ((rdOf ByteArray.empty t136 1).extract 3 8)).bind fun bt150 => (if bt141.2 = true then (if bt144.2 = true then (if bt147.2 = true then (if bt150.2 = true then (spec_ReadAngle.j3 kj12 a0 x4_5 bt141.1 bt144.1 bt147.1 bt150.1 (decide (bt141.1 > 180))) else (spec_ReadAngle.j3 kj12 a0 x4_5 bt141.1 bt144.1 bt147.1 bt150.1 true)) else (spec_ReadAngle.j3 kj12 a0 x4_5 bt141.1 bt144.1 bt147.1 bt150.1 true)) else (spec_ReadAngle.j3 kj12 a0 x4_5 bt141.1 bt144.1 bt147.1 bt150.1 true)) else (spec_ReadAngle.j3 kj12 a0 x4_5 bt141.1 bt144.1 bt147.1 bt150.1 true))) else (none)) else (none))) else (none)) else (none)) else (none))) else (none))) else (none)) = some (r1, r2) := by rw [if_neg (show ¬ (false = true) by decide)] at H; exact H
                    clear H
                    have H := H1
                    clear H1
                    by_cases c22 : 0 < (t132.length : Int)
                    · rw [if_pos c22] at H
                      have c22b0 : decide (0 < (t132.length : Int)) = true := decide_eq_true c22
                      have c22b1 : decide (0 < t132.length) = true := decide_eq_true (by omega)
                      clear c22
                      replace H := Option.bind_eq_some_iff.mp H
                      obtain ⟨⟨t141, t142⟩, A230, H⟩ := H
                      replace H : (if 0 < (t136.length : Int) then ((spec_l11Number.f kj12 (rdOf ByteArray.empty t136 0)).bind fun bt144 => (if 1 < (t136.length : Int) then (if 0 ≤ 2 then (if 2 ≤ ((rdOf ByteArray.empty t136 1).size : Int) then ((spec_l11Number.f kj12 ((rdOf ByteArray.empty t136 1).extract 0 2)).bind fun bt147 => (if 3 ≤ 8 then (if 8 ≤ ((rdOf ByteArray.empty t136 1).size : Int) then ((spec_l11Number.f kj12 ((rdOf ByteArray.empty t136 1).extract 3 8)).bind fun bt150 => (if t142 = true then (if bt144.2 = true then (if bt147.2 = true then (if bt150.2 = true then (spec_ReadAngle.j3 kj12 a0 x4_5 t141 bt144.1 bt147.1 bt150.1 (decide (t141 > 180))) else (spec_ReadAngle.j3 kj12 a0 x4_5 t141 bt144.1 bt147.1 bt150.1 true)) else (spec_ReadAngle.j3 kj12 a0 x4_5 t141 bt144.1 bt147.1 bt150.1 true)) else (spec_ReadAngle.j3 kj12 a0 x4_5 t141 bt144.1 bt147.1 bt150.1 true)) else (spec_ReadAngle.j3 kj12 a0 x4_5 t141 bt144.1 bt147.1 bt150.1 true))) else (none)) else (none))) else (none)) else (none)) else (none))) else (none)) = some (r1, r2) := H
                      have A23 := Aside0.mk A230
                      clear A230
                      by_cases c24 : 0 < (t136.length : Int)
                      · rw [if_pos c24] at H
                        have c24b0 : decide (0 < (t136.length : Int)) = true := decide_eq_true c24
                        have c24b1 : decide (0 < t136.length) = true := decide_eq_true (by omega)
                        clear c24
                        replace H := Option.bind_eq_some_iff.mp H
                        obtain ⟨⟨t144, t145⟩, A250, H⟩ := H
                        replace H : (if 1 < (t136.length : Int) then (if 0 ≤ 2 then (if 2 ≤ ((rdOf ByteArray.empty t136 1).size : Int) then ((spec_l11Number.f kj12 ((rdOf ByteArray.empty t136 1).extract 0 2)).bind fun bt147 => (if 3 ≤ 8 then (if 8 ≤ ((rdOf ByteArray.empty t136 1).size : Int) then ((spec_l11Number.f kj12 ((rdOf ByteArray.empty t136 1).extract 3 8)).bind fun bt150 => (if t142 = true then (if t145 = true then (if bt147.2 = true then (if bt150.2 = true then (spec_ReadAngle.j3 kj12 a0 x4_5 t141 t144 bt147.1 bt150.1 (decide (t141 > 180))) else (spec_ReadAngle.j3 kj12 a0 x4_5 t141 t144 bt147.1 bt150.1 true)) else (spec_ReadAngle.j3 kj12 a0 x4_5 t141 t144 bt147.1 bt150.1 true)) else (spec_ReadAngle.j3 kj12 a0 x4_5 t141 t144 bt147.1 bt150.1 true)) else (spec_ReadAngle.j3 kj12 a0 x4_5 t141 t144 bt147.1 bt150.1 true))) else (none)) else (none))) else (none)) else (none)) else (none)) = some (r1, r2) := H
                        have A25 := Aside0.mk A250
                        clear A250
                        by_cases c26 : 1 < (t136.length : Int)
                        · rw [if_pos c26] at H
                          have c26b0 : decide (1 < (t136.length : Int)) = true := decide_eq_true c26
                          have c26b1 : decide (1 < t136.length) = true := decide_eq_true (by omega)
                          clear c26
                          by_cases c27 : 0 ≤ 2
                          · rw [if_pos c27] at H
                            have c27b0 := eq_true c27
                            have c27b1 : decide (0 ≤ 2) = true := decide_eq_true c27
                            clear c27
                            by_cases c28 : 2 ≤ ((rdOf ByteArray.empty t136 1).size : Int)
                            · rw [if_pos c28] at H
                              have c28b0 := eq_true c28
                              have c28b1 : decide (2 ≤ ((rdOf ByteArray.empty t136 1).size : Int)) = true := decide_eq_true c28
                              clear c28
                              replace H := Option.bind_eq_some_iff.mp H
                              obtain ⟨⟨t147, t148⟩, A290, H⟩ := H
                              replace H : (if 3 ≤ 8 then (if 8 ≤ ((rdOf ByteArray.empty t136 1).size : Int) then ((spec_l11Number.f kj12 ((rdOf ByteArray.empty t136 1).extract 3 8)).bind fun bt150 => (if t142 = true then (if t145 = true then (if t148 = true then (if bt150.2 = true then (spec_ReadAngle.j3 kj12 a0 x4_5 t141 t144 t147 bt150.1 (decide (t141 > 180))) else (spec_ReadAngle.j3 kj12 a0 x4_5 t141 t144 t147 bt150.1 true)) else (spec_ReadAngle.j3 kj12 a0 x4_5 t141 t144 t147 bt150.1 true)) else (spec_ReadAngle.j3 kj12 a0 x4_5 t141 t144 t147 bt150.1 true)) else (spec_ReadAngle.j3 kj12 a0 x4_5 t141 t144 t147 bt150.1 true))) else (none)) else (none)) = some (r1, r2) := H
                              have A29 := Aside0.mk A290
                              clear A290
                              by_cases c30 : 3 ≤ 8
                              · rw [if_pos c30] at H
                                have c30b0 := eq_true c30
                                have c30b1 : decide (3 ≤ 8) = true := decide_eq_true c30
                                clear c30
                                by_cases c31 : 8 ≤ ((rdOf ByteArray.empty t136 1).size : Int)
                                · rw [if_pos c31] at H
                                  have c31b0 := eq_true c31
                                  have c31b1 : decide (8 ≤ ((rdOf ByteArray.empty t136 1).size : Int)) = true := decide_eq_true c31
                                  clear c31
                                  replace H := Option.bind_eq_some_iff.mp H
                                  obtain ⟨⟨t150, t151⟩, A320, H⟩ := H
                                  replace H : (if t142 = true then (if t145 = true then (if t148 = true then (if t151 = true then (spec_ReadAngle.j3 kj12 a0 x4_5 t141 t144 t147 t150 (decide (t141 > 180))) else (spec_ReadAngle.j3 kj12 a0 x4_5 t141 t144 t147 t150 true)) else (spec_ReadAngle.j3 kj12 a0 x4_5 t141 t144 t147 t150 true)) else (spec_ReadAngle.j3 kj12 a0 x4_5 t141 t144 t147 t150 true)) else (spec_ReadAngle.j3 kj12 a0 x4_5 t141 t144 t147 t150 true)) = some (r1, r2) := H
                                  have A32 := Aside0.mk A320
                                  clear A320
                                  have HC33 := Aside0.mk H
                                  clear H
                                  have p140 : 0 ≤ (0 : Int) := (by omega)
                                  have q140 : 0 < (t132.length : Int) := of_decide_eq_true (by first | (with_reducible assumption) | assumption)
                                  obtain ⟨ad140, e140, hx140_0⟩ := Kd.at_string (Kd.R_reads' HO_5.out).2.2 0 p140 q140
                                  obtain rfl : ad135 = ad140 := (by injection e140)
                                  have qi140 : (0 < t132.length) = True := eq_true (by omega)
                                  (try rw [show ((0 : Int)).toNat = 0 from rfl] at hx140_0)
                                  (try rw [Addr.add_zero'] at hx140_0)
                                  replace p140 := eq_true p140
                                  replace q140 := eq_true q140
                                  go_upto_region 14 with (first | ((with_reducible refine gate_callee (f := 41) rfl ?_); refine goesL_ (some 49) rfl rfl Tryd.func41 (by kernel_rfl) rfl #[.string (rdOf ByteArray.empty t132 0)] rfl (by (try simp only [List.map_toArray, List.map_cons, List.map_nil]); first | done | rfl | (simp only [List.length_drop, List.length_take]; rfl)) ?_; (with_reducible refine (spec_l11Number.calls kj12 (rdOf ByteArray.empty t132 0) t141 t142 _ A23.out).mono ?_); rintro e w' ⟨rfl, ⟨nd, rfl⟩⟩; refine ⟨_, rfl, ?_⟩; obtain ⟨Ao34, co34, eo34⟩ := Kd.R_slice HO_6.out; subst eo34; have p143 : 0 ≤ (0 : Int) := (by omega); have q143 : 0 < (t136.length : Int) := of_decide_eq_true (by first | (with_reducible assumption) | assumption); obtain ⟨ad143, e143, hx143_0⟩ := Kd.at_string (Kd.R_reads' HO_6.out).2.2 0 p143 q143; cases e143; have qi143 : (0 < t136.length) = True := eq_true (by omega); (try rw [show ((0 : Int)).toNat = 0 from rfl] at hx143_0); (try rw [Addr.add_zero'] at hx143_0); replace p143 := eq_true p143; replace q143 := eq_true q143) | ((with_reducible refine gate_callee (f := 41) rfl ?_); refine goesL_ (some 56) rfl rfl Tryd.func41 (by kernel_rfl) rfl #[.string (rdOf ByteArray.empty t136 0)] rfl (by (try simp only [List.map_toArray, List.map_cons, List.map_nil]); first | done | rfl | (simp only [List.length_drop, List.length_take]; rfl)) ?_; (with_reducible refine (spec_l11Number.calls kj12 (rdOf ByteArray.empty t136 0) t144 t145 _ A25.out).mono ?_); rintro e w' ⟨rfl, ⟨nd, rfl⟩⟩; refine ⟨_, rfl, ?_⟩; have p146 : 0 ≤ (1 : Int) := (by omega); have q146 : 1 < (t136.length : Int) := of_decide_eq_true (by first | (with_reducible assumption) | assumption); obtain ⟨ad146, e146, hx146_0⟩ := Kd.at_string (Kd.R_reads' HO_6.out).2.2 1 p146 q146; obtain rfl : ad143 = ad146 := (by injection e146); (try simp only [show (1 : Int).toNat = 1 from rfl, Nat.reduceMul, Nat.reduceEqDiff, Go.Addr.add, ↓reduceIte] at hx146_0); have qi146 : (1 < t136.length) = True := eq_true (by omega); (try rw [show ((1 : Int)).toNat = 1 from rfl] at hx146_0); replace p146 := eq_true p146; replace q146 := eq_true q146) | ((with_reducible refine gate_callee (f := 41) rfl ?_); refine goesL_ (some 64) rfl rfl Tryd.func41 (by kernel_rfl) rfl #[.string ((rdOf ByteArray.empty t136 1).extract 0 2)] rfl (by (try simp only [List.map_toArray, List.map_cons, List.map_nil]); first | done | rfl | (simp only [List.length_drop, List.length_take]; rfl)) ?_; (with_reducible refine (spec_l11Number.calls kj12 ((rdOf ByteArray.empty t136 1).extract 0 2) t147 t148 _ A29.out).mono ?_); rintro e w' ⟨rfl, ⟨nd, rfl⟩⟩; refine ⟨_, rfl, ?_⟩; have p149 : 0 ≤ (1 : Int) := (by omega); have q149 : 1 < (t136.length : Int) := of_decide_eq_true (by first | (with_reducible assumption) | assumption); obtain ⟨ad149, e149, hx149_0⟩ := Kd.at_string (Kd.R_reads' HO_6.out).2.2 1 p149 q149; obtain rfl : ad143 = ad149 := (by injection e149); (try simp only [show (1 : Int).toNat = 1 from rfl, Nat.reduceMul, Nat.reduceEqDiff, Go.Addr.add, ↓reduceIte] at hx149_0); have qi149 : (1 < t136.length) = True := eq_true (by omega); (try rw [show ((1 : Int)).toNat = 1 from rfl] at hx149_0); replace p149 := eq_true p149; replace q149 := eq_true q149) | ((with_reducible refine gate_callee (f := 41) rfl ?_); refine goesL_ (some 72) rfl rfl Tryd.func41 (by kernel_rfl) rfl #[.string ((rdOf ByteArray.empty t136 1).extract 3 8)] rfl (by (try simp only [List.map_toArray, List.map_cons, List.map_nil]); first | done | rfl | (simp only [List.length_drop, List.length_take]; rfl)) ?_; (with_reducible refine (spec_l11Number.calls kj12 ((rdOf ByteArray.empty t136 1).extract 3 8) t150 t151 _ A32.out).mono ?_); rintro e w' ⟨rfl, ⟨nd, rfl⟩⟩; refine ⟨_, rfl, ?_⟩))
                                  (try simp only [Act.put, List.setIfInBounds_toArray, List.set_cons_zero, List.set_cons_succ])
                                  go_cut [92] (fun v92 wc => ∃ (kq : Nat) (x92_32 : Bool), v92 = .bool x92_32 ∧ Aside0 (spec_ReadAngle.j3 kq a0 x4_5 t141 t144 t147 t150 x92_32 = some (r1, r2)) ∧ Aside0 (kq ≤ kj12) ∧ Aside0 (Below w.heap.size w wc))
                                  case first =>
                                    have H := HC33.out
                                    clear HC33
                                    by_cases c35 : t142 = true
                                    · subst c35
                                      have H1 : (if t145 = true then (if t148 = true then (if t151 = true then (spec_ReadAngle.j3 kj12 a0 x4_5 t141 t144 t147 t150 (decide (t141 > 180))) else (spec_ReadAngle.j3 kj12 a0 x4_5 t141 t144 t147 t150 true)) else (spec_ReadAngle.j3 kj12 a0 x4_5 t141 t144 t147 t150 true)) else (spec_ReadAngle.j3 kj12 a0 x4_5 t141 t144 t147 t150 true)) = some (r1, r2) := by rw [if_pos rfl] at H; exact H
                                      clear H
                                      have H := H1
                                      clear H1
                                      by_cases c36 : t145 = true
                                      · subst c36
                                        have H1 : (if t148 = true then (if t151 = true then (spec_ReadAngle.j3 kj12 a0 x4_5 t141 t144 t147 t150 (decide (t141 > 180))) else (spec_ReadAngle.j3 kj12 a0 x4_5 t141 t144 t147 t150 true)) else (spec_ReadAngle.j3 kj12 a0 x4_5 t141 t144 t147 t150 true)) = some (r1, r2) := by rw [if_pos rfl] at H; exact H
                                        clear H
                                        have H := H1
                                        clear H1
                                        by_cases c37 : t148 = true
                                        · subst c37
                                          have H1 : (if t151 = true then (spec_ReadAngle.j3 kj12 a0 x4_5 t141 t144 t147 t150 (decide (t141 > 180))) else (spec_ReadAngle.j3 kj12 a0 x4_5 t141 t144 t147 t150 true)) = some (r1, r2) := by rw [if_pos rfl] at H; exact H
                                          clear H
                                          have H := H1
                                          clear H1
                                          by_cases c38 : t151 = true
                                          · subst c38
                                            have H1 : (spec_ReadAngle.j3 kj12 a0 x4_5 t141 t144 t147 t150 (decide (t141 > 180))) = some (r1, r2) := by rw [if_pos rfl] at H; exact H
                                            clear H
                                            have H := H1
                                            clear H1
                                            have H' := Aside0.mk H
                                            clear H
                                            go_wp2
                                            go_meet
                                            case rel => exact ⟨_, (decide (t141 > 180)), (by first | rfl | (simp; done) | (simp [*]; done)), H', ⟨by have := HJ1.out; have := HJ5.out; have := HJ12.out; first | omega | exact Nat.le_refl _⟩, ⟨by repeat (first | (with_reducible first | exact HB.out | apply below_alloc | apply pw_below_drewN | apply below_drew1) | exact HB.out)⟩⟩
                                          · replace c38 := Bool.eq_false_iff.mpr c38
                                            subst c38
                                            have H1 : (spec_ReadAngle.j3 kj12 a0 x4_5 t141 t144 t147 t150 true) = some (r1, r2) := by rw [if_neg (show ¬ (false = true) by decide)] at H; exact H
                                            clear H
                                            have H := H1
                                            clear H1
                                            have H' := Aside0.mk H
                                            clear H
                                            go_wp2
                                            go_meet
                                            case rel => exact ⟨_, (true), (by first | rfl | (simp; done) | (simp [*]; done)), H', ⟨by have := HJ1.out; have := HJ5.out; have := HJ12.out; first | omega | exact Nat.le_refl _⟩, ⟨by repeat (first | (with_reducible first | exact HB.out | apply below_alloc | apply pw_below_drewN | apply below_drew1) | exact HB.out)⟩⟩
                                        · replace c37 := Bool.eq_false_iff.mpr c37
                                          subst c37
                                          have H1 : (spec_ReadAngle.j3 kj12 a0 x4_5 t141 t144 t147 t150 true) = some (r1, r2) := by rw [if_neg (show ¬ (false = true) by decide)] at H; exact H
                                          clear H
                                          have H := H1
                                          clear H1
                                          have H' := Aside0.mk H
                                          clear H
                                          go_wp2
                                          go_meet
                                          case rel => exact ⟨_, (true), (by first | rfl | (simp; done) | (simp [*]; done)), H', ⟨by have := HJ1.out; have := HJ5.out; have := HJ12.out; first | omega | exact Nat.le_refl _⟩, ⟨by repeat (first | (with_reducible first | exact HB.out | apply below_alloc | apply pw_below_drewN | apply below_drew1) | exact HB.out)⟩⟩
                                      · replace c36 := Bool.eq_false_iff.mpr c36
                                        subst c36
                                        have H1 : (spec_ReadAngle.j3 kj12 a0 x4_5 t141 t144 t147 t150 true) = some (r1, r2) := by rw [if_neg (show ¬ (false = true) by decide)] at H; exact H
                                        clear H
                                        have H := H1
                                        clear H1
                                        have H' := Aside0.mk H
                                        clear H
                                        go_wp2
                                        go_meet
                                        case rel => exact ⟨_, (true), (by first | rfl | (simp; done) | (simp [*]; done)), H', ⟨by have := HJ1.out; have := HJ5.out; have := HJ12.out; first | omega | exact Nat.le_refl _⟩, ⟨by repeat (first | (with_reducible first | exact HB.out | apply below_alloc | apply pw_below_drewN | apply below_drew1) | exact HB.out)⟩⟩
                                    · replace c35 := Bool.eq_false_iff.mpr c35
                                      subst c35
                                      have H1 : (spec_ReadAngle.j3 kj12 a0 x4_5 t141 t144 t147 t150 true) = some (r1, r2) := by rw [if_neg (show ¬ (false = true) by decide)] at H; exact H
                                      clear H
                                      have H := H1
                                      clear H1
                                      have H' := Aside0.mk H
                                      clear H
                                      go_wp2
                                      go_meet
                                      case rel => exact ⟨_, (true), (by first | rfl | (simp; done) | (simp [*]; done)), H', ⟨by have := HJ1.out; have := HJ5.out; have := HJ12.out; first | omega | exact Nat.le_refl _⟩, ⟨by repeat (first | (with_reducible first | exact HB.out | apply below_alloc | apply pw_below_drewN | apply below_drew1) | exact HB.out)⟩⟩
                                  case rest =>
                                    clear HC33
                                    try clear c1
                                    try clear p1
                                    try clear q1
                                    try clear hx1
                                    try clear qi1
                                    try clear c2
                                    try clear p2
                                    try clear c3
                                    try clear c3b0
                                    try clear c3b1
                                    try clear c4
                                    try clear c4b0
                                    try clear c4b1
                                    try clear p5
                                    try clear q5
                                    try clear hx5
                                    try clear qi5
                                    try clear c7
                                    try clear c8
                                    try clear c8b0
                                    try clear c8b1
                                    try clear c10
                                    try clear c10b0
                                    try clear c10b1
                                    try clear c11
                                    try clear c11b0
                                    try clear c11b1
                                    try clear p13
                                    try clear q13
                                    try clear hx13
                                    try clear qi13
                                    try clear p14
                                    try clear q14
                                    try clear hx14
                                    try clear qi14
                                    try clear c17
                                    try clear c17b0
                                    try clear c17b1
                                    try clear c18
                                    try clear c18b0
                                    try clear c18b1
                                    try clear c20
                                    try clear c21
                                    try clear c22
                                    try clear c22b0
                                    try clear c22b1
                                    try clear c24
                                    try clear c24b0
                                    try clear c24b1
                                    try clear c26
                                    try clear c26b0
                                    try clear c26b1
                                    try clear c27
                                    try clear c27b0
                                    try clear c27b1
                                    try clear c28
                                    try clear c28b0
                                    try clear c28b1
                                    try clear c30
                                    try clear c30b0
                                    try clear c30b1
                                    try clear c31
                                    try clear c31b0
                                    try clear c31b1
                                    try clear c35
                                    try clear c36
                                    try clear c37
                                    try clear c38
                                    try clear hx135_0
                                    try clear hx139_0
                                    try clear hx140_0
                                    try clear hx143_0
                                    try clear hx146_0
                                    try clear hx149_0
                                    try clear p1
                                    try clear p13
                                    try clear p135
                                    try clear p139
                                    try clear p140
                                    try clear p143
                                    try clear p146
                                    try clear p149
                                    try clear p2
                                    try clear p5
                                    try clear q1
                                    try clear q13
                                    try clear q135
                                    try clear q139
                                    try clear q140
                                    try clear q143
                                    try clear q146
                                    try clear q149
                                    try clear q5
                                    obtain ⟨kq, x92_32, rfl, HA, HJ32, HB⟩ := hcut
                                    cases kq with
                                    | zero => exact absurd HA.out (by simp [spec_ReadAngle.j3])
                                    | succ kj32 =>
                                      have H := HA.out
                                      clear HA
                                      simp only [spec_ReadAngle.j3] at H
                                      by_cases c39 : x92_32 = true
                                      · subst c39
                                        have H1 : (some (0, false)) = some (r1, r2) := by rw [if_pos rfl] at H; exact H
                                        clear H
                                        have H := H1
                                        clear H1
                                        simp only [Option.some.injEq, Prod.mk.injEq] at H
                                        obtain ⟨rfl, rfl⟩ := H
                                        go_wp2
                                        go_ret2
                                        exact ⟨by first | rfl | (simp [errW_none, errW_some] <;> rfl) | (simp [*, errW_none, errW_some] <;> rfl), by repeat (first | (with_reducible first | exact HB.out | apply below_alloc | apply pw_below_drewN | apply below_drew1) | exact HB.out)⟩
                                      · replace c39 := Bool.eq_false_iff.mpr c39
                                        subst c39
                                        have H1 : (if (x4_5.size : Int) < (a0.size : Int) then (if (wrap64 (-(wrap64 ((wrap64 (t141 * 10000000)) + (wrap64 (Int.tdiv (wrap64 ((wrap64 ((wrap64 (t144 * 6000000)) + (wrap64 (t147 * 100000)))) + t150)) 36)))))) < (-1800000000) then (some (0, false)) else (if (wrap64 (-(wrap64 ((wrap64 (t141 * 10000000)) + (wrap64 (Int.tdiv (wrap64 ((wrap64 ((wrap64 (t144 * 6000000)) + (wrap64 (t147 * 100000)))) + t150)) 36)))))) > 1800000000 then (some (0, false)) else ((spec_l11Parts.f kj32 (wrap64 (-(wrap64 ((wrap64 (t141 * 10000000)) + (wrap64 (Int.tdiv (wrap64 ((wrap64 ((wrap64 (t144 * 6000000)) + (wrap64 (t147 * 100000)))) + t150)) 36))))))).bind fun t152 => (if t152.toList = a0.toList then (some (wrap64 (-(wrap64 ((wrap64 (t141 * 10000000)) + (wrap64 (Int.tdiv (wrap64 ((wrap64 ((wrap64 (t144 * 6000000)) + (wrap64 (t147 * 100000)))) + t150)) 36))))), true)) else (some (0, false)))))) else (if (wrap64 ((wrap64 (t141 * 10000000)) + (wrap64 (Int.tdiv (wrap64 ((wrap64 ((wrap64 (t144 * 6000000)) + (wrap64 (t147 * 100000)))) + t150)) 36)))) < (-1800000000) then (some (0, false)) else (if (wrap64 ((wrap64 (t141 * 10000000)) + (wrap64 (Int.tdiv (wrap64 ((wrap64 ((wrap64 (t144 * 6000000)) + (wrap64 (t147 * 100000)))) + t150)) 36)))) > 1800000000 then (some (0, false)) else ((spec_l11Parts.f kj32 (wrap64 ((wrap64 (t141 * 10000000)) + (wrap64 (Int.tdiv (wrap64 ((wrap64 ((wrap64 (t144 * 6000000)) + (wrap64 (t147 * 100000)))) + t150)) 36))))).bind fun t153 => (if t153.toList = a0.toList then (some (wrap64 ((wrap64 (t141 * 10000000)) + (wrap64 (Int.tdiv (wrap64 ((wrap64 ((wrap64 (t144 * 6000000)) + (wrap64 (t147 * 100000)))) + t150)) 36))), true)) else (some (0, false))))))) = some (r1, r2) := by rw [if_neg (show ¬ (false = true) by decide)] at H; exact H
                                        clear H
                                        have H := H1
                                        clear H1
                                        by_cases c40 : (x4_5.size : Int) < (a0.size : Int)
                                        · rw [if_pos c40] at H
                                          have c40b0 : decide ((x4_5.size : Int) < (a0.size : Int)) = true := decide_eq_true c40
                                          have c40b1 : decide (x4_5.size < a0.size) = true := decide_eq_true (Int.ofNat_lt.mp c40)
                                          clear c40
                                          by_cases c41 : (wrap64 (-(wrap64 ((wrap64 (t141 * 10000000)) + (wrap64 (Int.tdiv (wrap64 ((wrap64 ((wrap64 (t144 * 6000000)) + (wrap64 (t147 * 100000)))) + t150)) 36)))))) < (-1800000000)
                                          · rw [if_pos c41] at H
                                            have c41b0 : decide ((wrap64 (-(wrap64 ((wrap64 (t141 * 10000000)) + (wrap64 (Int.tdiv (wrap64 ((wrap64 ((wrap64 (t144 * 6000000)) + (wrap64 (t147 * 100000)))) + t150)) 36)))))) < (-1800000000)) = true := decide_eq_true c41
                                            clear c41
                                            simp only [Option.some.injEq, Prod.mk.injEq] at H
                                            obtain ⟨rfl, rfl⟩ := H
                                            go_wp2
                                            go_ret2
                                            exact ⟨by first | rfl | (simp [errW_none, errW_some] <;> rfl) | (simp [*, errW_none, errW_some] <;> rfl), by repeat (first | (with_reducible first | exact HB.out | apply below_alloc | apply pw_below_drewN | apply below_drew1) | exact HB.out)⟩
                                          · rw [if_neg c41] at H
                                            have c41b0 : decide ((wrap64 (-(wrap64 ((wrap64 (t141 * 10000000)) + (wrap64 (Int.tdiv (wrap64 ((wrap64 ((wrap64 (t144 * 6000000)) + (wrap64 (t147 * 100000)))) + t150)) 36)))))) < (-1800000000)) = false := decide_eq_false c41
                                            clear c41
                                            by_cases c42 : (wrap64 (-(wrap64 ((wrap64 (t141 * 10000000)) + (wrap64 (Int.tdiv (wrap64 ((wrap64 ((wrap64 (t144 * 6000000)) + (wrap64 (t147 * 100000)))) + t150)) 36)))))) > 1800000000
                                            · rw [if_pos c42] at H
                                              have c42b0 : decide (1800000000 < (wrap64 (-(wrap64 ((wrap64 (t141 * 10000000)) + (wrap64 (Int.tdiv (wrap64 ((wrap64 ((wrap64 (t144 * 6000000)) + (wrap64 (t147 * 100000)))) + t150)) 36))))))) = true := decide_eq_true c42
                                              clear c42
                                              simp only [Option.some.injEq, Prod.mk.injEq] at H
                                              obtain ⟨rfl, rfl⟩ := H
                                              go_wp2
                                              go_ret2
                                              exact ⟨by first | rfl | (simp [errW_none, errW_some] <;> rfl) | (simp [*, errW_none, errW_some] <;> rfl), by repeat (first | (with_reducible first | exact HB.out | apply below_alloc | apply pw_below_drewN | apply below_drew1) | exact HB.out)⟩
                                            · rw [if_neg c42] at H
                                              have c42b0 : decide (1800000000 < (wrap64 (-(wrap64 ((wrap64 (t141 * 10000000)) + (wrap64 (Int.tdiv (wrap64 ((wrap64 ((wrap64 (t144 * 6000000)) + (wrap64 (t147 * 100000)))) + t150)) 36))))))) = false := decide_eq_false c42
                                              clear c42
                                              replace H := Option.bind_eq_some_iff.mp H
                                              obtain ⟨t152, A430, H⟩ := H
                                              replace H : (if t152.toList = a0.toList then (some (wrap64 (-(wrap64 ((wrap64 (t141 * 10000000)) + (wrap64 (Int.tdiv (wrap64 ((wrap64 ((wrap64 (t144 * 6000000)) + (wrap64 (t147 * 100000)))) + t150)) 36))))), true)) else (some (0, false))) = some (r1, r2) := H
                                              have A43 := Aside0.mk A430
                                              clear A430
                                              by_cases c44 : t152.toList = a0.toList
                                              · rw [if_pos c44] at H
                                                have c44b0 : (t152.toList == a0.toList) = true := beq_iff_eq.mpr c44
                                                have c44b1 : (t152.toList != a0.toList) = false := bne_eq_false_iff_eq.mpr c44
                                                clear c44
                                                simp only [Option.some.injEq, Prod.mk.injEq] at H
                                                obtain ⟨rfl, rfl⟩ := H
                                                go_wp2_with (first | (go_at_call 30; (with_reducible refine (spec_l11Parts.calls kj32 (wrap64 (-(wrap64 ((wrap64 (t141 * 10000000)) + (wrap64 (Int.tdiv (wrap64 ((wrap64 ((wrap64 (t144 * 6000000)) + (wrap64 (t147 * 100000)))) + t150)) 36)))))) t152 _ A43.out).mono ?_); rintro e w45 ⟨rfl, hb⟩; have n0_ := Aside0.mk (below_step (by repeat (first | (with_reducible first | exact HB.out | apply below_alloc | apply pw_below_drewN | apply below_drew1) | exact HB.out)) hb); clear HB; have HB := n0_; clear n0_; (try clear hb); (try clear hb2); (try clear hk); (try clear hi)))
                                                go_ret2
                                                exact ⟨by first | rfl | (simp [errW_none, errW_some] <;> rfl) | (simp [*, errW_none, errW_some] <;> rfl), by repeat (first | (with_reducible first | exact HB.out | apply below_alloc | apply pw_below_drewN | apply below_drew1) | exact HB.out)⟩
                                              · rw [if_neg c44] at H
                                                have c44b0 : (t152.toList == a0.toList) = false := beq_eq_false_iff_ne.mpr c44
                                                have c44b1 : (t152.toList != a0.toList) = true := bne_iff_ne.mpr c44
                                                simp only [Option.some.injEq, Prod.mk.injEq] at H
                                                obtain ⟨rfl, rfl⟩ := H
                                                go_wp2_with (first | (go_at_call 30; (with_reducible refine (spec_l11Parts.calls kj32 (wrap64 (-(wrap64 ((wrap64 (t141 * 10000000)) + (wrap64 (Int.tdiv (wrap64 ((wrap64 ((wrap64 (t144 * 6000000)) + (wrap64 (t147 * 100000)))) + t150)) 36)))))) t152 _ A43.out).mono ?_); rintro e w46 ⟨rfl, hb⟩; have n0_ := Aside0.mk (below_step (by repeat (first | (with_reducible first | exact HB.out | apply below_alloc | apply pw_below_drewN | apply below_drew1) | exact HB.out)) hb); clear HB; have HB := n0_; clear n0_; (try clear hb); (try clear hb2); (try clear hk); (try clear hi)))
                                                go_ret2
                                                exact ⟨by first | rfl | (simp [errW_none, errW_some] <;> rfl) | (simp [*, errW_none, errW_some] <;> rfl), by repeat (first | (with_reducible first | exact HB.out | apply below_alloc | apply pw_below_drewN | apply below_drew1) | exact HB.out)⟩
                                        · rw [if_neg c40] at H
                                          have c40b0 : decide ((x4_5.size : Int) < (a0.size : Int)) = false := decide_eq_false c40
                                          have c40b1 : decide (x4_5.size < a0.size) = false := decide_eq_false (fun h => c40 (Int.ofNat_lt.mpr h))
                                          clear c40
                                          by_cases c47 : (wrap64 ((wrap64 (t141 * 10000000)) + (wrap64 (Int.tdiv (wrap64 ((wrap64 ((wrap64 (t144 * 6000000)) + (wrap64 (t147 * 100000)))) + t150)) 36)))) < (-1800000000)
                                          · rw [if_pos c47] at H
                                            have c47b0 : decide ((wrap64 ((wrap64 (t141 * 10000000)) + (wrap64 (Int.tdiv (wrap64 ((wrap64 ((wrap64 (t144 * 6000000)) + (wrap64 (t147 * 100000)))) + t150)) 36)))) < (-1800000000)) = true := decide_eq_true c47
                                            clear c47
                                            simp only [Option.some.injEq, Prod.mk.injEq] at H
                                            obtain ⟨rfl, rfl⟩ := H
                                            go_wp2
                                            go_ret2
                                            exact ⟨by first | rfl | (simp [errW_none, errW_some] <;> rfl) | (simp [*, errW_none, errW_some] <;> rfl), by repeat (first | (with_reducible first | exact HB.out | apply below_alloc | apply pw_below_drewN | apply below_drew1) | exact HB.out)⟩
                                          · rw [if_neg c47] at H
                                            have c47b0 : decide ((wrap64 ((wrap64 (t141 * 10000000)) + (wrap64 (Int.tdiv (wrap64 ((wrap64 ((wrap64 (t144 * 6000000)) + (wrap64 (t147 * 100000)))) + t150)) 36)))) < (-1800000000)) = false := decide_eq_false c47
                                            clear c47
                                            by_cases c48 : (wrap64 ((wrap64 (t141 * 10000000)) + (wrap64 (Int.tdiv (wrap64 ((wrap64 ((wrap64 (t144 * 6000000)) + (wrap64 (t147 * 100000)))) + t150)) 36)))) > 1800000000
                                            · rw [if_pos c48] at H
                                              have c48b0 : decide (1800000000 < (wrap64 ((wrap64 (t141 * 10000000)) + (wrap64 (Int.tdiv (wrap64 ((wrap64 ((wrap64 (t144 * 6000000)) + (wrap64 (t147 * 100000)))) + t150)) 36))))) = true := decide_eq_true c48
                                              clear c48
                                              simp only [Option.some.injEq, Prod.mk.injEq] at H
                                              obtain ⟨rfl, rfl⟩ := H
                                              go_wp2
                                              go_ret2
                                              exact ⟨by first | rfl | (simp [errW_none, errW_some] <;> rfl) | (simp [*, errW_none, errW_some] <;> rfl), by repeat (first | (with_reducible first | exact HB.out | apply below_alloc | apply pw_below_drewN | apply below_drew1) | exact HB.out)⟩
                                            · rw [if_neg c48] at H
                                              have c48b0 : decide (1800000000 < (wrap64 ((wrap64 (t141 * 10000000)) + (wrap64 (Int.tdiv (wrap64 ((wrap64 ((wrap64 (t144 * 6000000)) + (wrap64 (t147 * 100000)))) + t150)) 36))))) = false := decide_eq_false c48
                                              clear c48
                                              replace H := Option.bind_eq_some_iff.mp H
                                              obtain ⟨t153, A490, H⟩ := H
                                              replace H : (if t153.toList = a0.toList then (some (wrap64 ((wrap64 (t141 * 10000000)) + (wrap64 (Int.tdiv (wrap64 ((wrap64 ((wrap64 (t144 * 6000000)) + (wrap64 (t147 * 100000)))) + t150)) 36))), true)) else (some (0, false))) = some (r1, r2) := H
                                              have A49 := Aside0.mk A490
                                              clear A490
                                              by_cases c50 : t153.toList = a0.toList
                                              · rw [if_pos c50] at H
                                                have c50b0 : (t153.toList == a0.toList) = true := beq_iff_eq.mpr c50
                                                have c50b1 : (t153.toList != a0.toList) = false := bne_eq_false_iff_eq.mpr c50
                                                clear c50
                                                simp only [Option.some.injEq, Prod.mk.injEq] at H
                                                obtain ⟨rfl, rfl⟩ := H
                                                go_wp2_with (first | (go_at_call 30; (with_reducible refine (spec_l11Parts.calls kj32 (wrap64 ((wrap64 (t141 * 10000000)) + (wrap64 (Int.tdiv (wrap64 ((wrap64 ((wrap64 (t144 * 6000000)) + (wrap64 (t147 * 100000)))) + t150)) 36)))) t153 _ A49.out).mono ?_); rintro e w51 ⟨rfl, hb⟩; have n0_ := Aside0.mk (below_step (by repeat (first | (with_reducible first | exact HB.out | apply below_alloc | apply pw_below_drewN | apply below_drew1) | exact HB.out)) hb); clear HB; have HB := n0_; clear n0_; (try clear hb); (try clear hb2); (try clear hk); (try clear hi)))
                                                go_ret2
                                                exact ⟨by first | rfl | (simp [errW_none, errW_some] <;> rfl) | (simp [*, errW_none, errW_some] <;> rfl), by repeat (first | (with_reducible first | exact HB.out | apply below_alloc | apply pw_below_drewN | apply below_drew1) | exact HB.out)⟩
                                              · rw [if_neg c50] at H
                                                have c50b0 : (t153.toList == a0.toList) = false := beq_eq_false_iff_ne.mpr c50
                                                have c50b1 : (t153.toList != a0.toList) = true := bne_iff_ne.mpr c50
                                                simp only [Option.some.injEq, Prod.mk.injEq] at H
                                                obtain ⟨rfl, rfl⟩ := H
                                                go_wp2_with (first | (go_at_call 30; (with_reducible refine (spec_l11Parts.calls kj32 (wrap64 ((wrap64 (t141 * 10000000)) + (wrap64 (Int.tdiv (wrap64 ((wrap64 ((wrap64 (t144 * 6000000)) + (wrap64 (t147 * 100000)))) + t150)) 36)))) t153 _ A49.out).mono ?_); rintro e w52 ⟨rfl, hb⟩; have n0_ := Aside0.mk (below_step (by repeat (first | (with_reducible first | exact HB.out | apply below_alloc | apply pw_below_drewN | apply below_drew1) | exact HB.out)) hb); clear HB; have HB := n0_; clear n0_; (try clear hb); (try clear hb2); (try clear hk); (try clear hi)))
                                                go_ret2
                                                exact ⟨by first | rfl | (simp [errW_none, errW_some] <;> rfl) | (simp [*, errW_none, errW_some] <;> rfl), by repeat (first | (with_reducible first | exact HB.out | apply below_alloc | apply pw_below_drewN | apply below_drew1) | exact HB.out)⟩
                                · rw [if_neg c31] at H
                                  exact absurd H (by simp)
                              · rw [if_neg c30] at H
                                exact absurd H (by simp)
                            · rw [if_neg c28] at H
                              exact absurd H (by simp)
                          · rw [if_neg c27] at H
                            exact absurd H (by simp)
                        · rw [if_neg c26] at H
                          exact absurd H (by simp)
                      · rw [if_neg c24] at H
                        exact absurd H (by simp)
                    · rw [if_neg c22] at H
                      exact absurd H (by simp)
            · rw [if_neg c11] at H
              exact absurd H (by simp)
          · rw [if_neg c10] at H
            have c10b0 : ((t132.length : Int) == 2) = false := beq_eq_false_iff_ne.mpr c10
            have c10b1 : ((t132.length : Int) != 2) = true := bne_iff_ne.mpr c10
            simp only [Option.some.injEq, Prod.mk.injEq] at H
            obtain ⟨rfl, rfl⟩ := H
            go_wp2_with (first | ((with_reducible refine gate_callee (f := 37) rfl ?_); refine goesL_ (some 27) rfl rfl Tryd.func37 (by kernel_rfl) rfl #[.string x4_5, .int .u8 100] rfl (by (try simp only [List.map_toArray, List.map_cons, List.map_nil]); first | done | rfl | (simp only [List.length_drop, List.length_take]; rfl)) ?_; (with_reducible refine (spec_l01Split.calls kj5 x4_5 100 t132 _ A9.out).mono ?_); rintro e w53 ⟨v133, rfl, ho0, hb⟩; refine ⟨_, rfl, ?_⟩; have n0_ := Aside0.mk (Kd.R_lower ho0 (below_size (by repeat (first | (with_reducible first | exact HB.out | apply below_alloc | apply pw_below_drewN | apply below_drew1) | exact HB.out)))); have n1_ := Aside0.mk (below_step (by repeat (first | (with_reducible first | exact HB.out | apply below_alloc | apply pw_below_drewN | apply below_drew1) | exact HB.out)) hb); clear HB; have HO134 := n0_; have HB := n1_; clear n0_ n1_; (try clear hb); (try clear hb2); (try clear hk); (try clear hi); (try clear ho0); obtain ⟨Ao54, co54, eo54⟩ := Kd.R_slice HO134.out; subst eo54))
            go_ret2
            exact ⟨by first | rfl | (simp [errW_none, errW_some] <;> rfl) | (simp [*, errW_none, errW_some] <;> rfl), by repeat (first | (with_reducible first | exact HB.out | apply below_alloc | apply pw_below_drewN | apply below_drew1) | exact HB.out)⟩

/-! ### impl_within: function 31 -/
def impl_within.f (a0 : Int) (a1 : Int) (a2 : Int) : Option (Bool) := if a0 ≥ a1 then (some (decide (a0 ≤ a2))) else (some false)
set_option maxHeartbeats 8000000 in
set_option maxRecDepth 100000 in
theorem impl_within.calls (a0 : Int) (a1 : Int) (a2 : Int) (r : Bool) (w : World) (h : impl_within.f a0 a1 a2 = some r) :
    Calls Tryd.prog 31 #[.int .i64 a0, .int .i64 a1, .int .i64 a2] w fun e w' => e = .returned (.bool r) ∧ Drawn0 w w' := by
  have H : (if a0 ≥ a1 then (some (decide (a0 ≤ a2))) else (some false)) = some r := h
  clear h
  by_cases c4 : a0 ≥ a1
  · rw [if_pos c4] at H
    have c4b0 : decide (a1 ≤ a0) = true := decide_eq_true c4
    clear c4
    obtain rfl := Option.some.inj H
    go_enter Tryd.func31, Tryd.ntmps31
    go_wp2
    go_ret
    exact ⟨by first | rfl | (simp; done) | (simp [*]; done), by repeat (first | exact Drawn0.refl _ | apply Drawn0.step)⟩
  · rw [if_neg c4] at H
    have c4b0 : decide (a1 ≤ a0) = false := decide_eq_false c4
    clear c4
    obtain rfl := Option.some.inj H
    go_enter Tryd.func31, Tryd.ntmps31
    go_wp2
    go_ret
    exact ⟨by first | rfl | (simp; done) | (simp [*]; done), by repeat (first | exact Drawn0.refl _ | apply Drawn0.step)⟩

/-! ### strconv_FormatInt_65: function 65 -/
def strconv_FormatInt_65.f (a0 : Int) (a1 : Int) : Option ByteArray := if a1 = 10 then (if -9223372036854775808 ≤ a0 ∧ a0 ≤ 9223372036854775807 then some ⟨(Lib.itoa a0).toArray⟩ else none) else none
theorem strconv_FormatInt_65.calls {b_ : Bool} (a0 : Int) (a1 : Int) (r : ByteArray) (w : World) (hO_ : Ok_ b_ w) (h : strconv_FormatInt_65.f a0 a1 = some r) :
    Calls Tryd.prog 65 #[.int .i64 a0, .int .i64 a1] w fun e w' => e = .returned (.string r) ∧ Below w.heap.size w w' := by
  unfold strconv_FormatInt_65.f at h
  by_cases h1 : a1 = 10
  · rw [if_pos h1] at h
    by_cases h2 : -9223372036854775808 ≤ a0 ∧ a0 ≤ 9223372036854775807
    · rw [if_pos h2] at h
      subst h1
      exact formatInt_ a0 r h2.1 h2.2 w hO_ (Option.some.inj h)
    · rw [if_neg h2] at h; cases h
  · rw [if_neg h1] at h; cases h

/-! ### impl_Decimal: function 48 -/
def impl_Decimal.f (a0 : Int) : Option (ByteArray) := (strconv_FormatInt_65.f a0 10).bind fun t154 => (some t154)
set_option maxHeartbeats 8000000 in
set_option maxRecDepth 100000 in
theorem impl_Decimal.calls {b_ : Bool} (a0 : Int) (r : ByteArray) (w : World) (hO_ : Ok_ b_ w) (h : impl_Decimal.f a0 = some r) :
    Calls Tryd.prog 48 #[.int .i64 a0] w fun e w' => e = .returned (.string r) ∧ Below w.heap.size w w' := by
  have HB := Aside0.mk (Below.refl w.heap.size w)
  have H : ((strconv_FormatInt_65.f a0 10).bind fun t154 => (some t154)) = some r := h
  clear h
  replace H := Option.bind_eq_some_iff.mp H
  obtain ⟨t154, A20, H⟩ := H
  replace H : (some t154) = some r := H
  have A2 := Aside0.mk A20
  clear A20
  obtain rfl := Option.some.inj H
  go_enter Tryd.func48, Tryd.ntmps48
  go_wp2_with (first | ((with_reducible refine gate_callee (f := 65) rfl ?_); refine goesL_ (some 4) rfl rfl Tryd.func65 (by kernel_rfl) rfl #[.int .i64 a0, .int .i64 10] rfl (by (try simp only [List.map_toArray, List.map_cons, List.map_nil]); first | done | rfl | (simp only [List.length_drop, List.length_take]; rfl)) ?_; (with_reducible refine (strconv_FormatInt_65.calls a0 10 t154 _ (okd_ hO_ (by repeat (first | (with_reducible first | exact HB.out | apply below_alloc | apply pw_below_drewN | apply below_drew1) | exact HB.out))) A2.out).mono ?_); rintro e w3 ⟨rfl, hb⟩; refine ⟨_, rfl, ?_⟩; have n0_ := Aside0.mk (below_step (by repeat (first | (with_reducible first | exact HB.out | apply below_alloc | apply pw_below_drewN | apply below_drew1) | exact HB.out)) hb); clear HB; have HB := n0_; clear n0_; (try clear hb); (try clear hb2); (try clear hk); (try clear hi)))
  go_ret
  exact ⟨by first | rfl | (simp [errW_none, errW_some] <;> rfl) | (simp [*, errW_none, errW_some] <;> rfl), by repeat (first | (with_reducible first | exact HB.out | apply below_alloc | apply pw_below_drewN | apply below_drew1) | exact HB.out)⟩

/-! ### impl_abs: function 50 -/
def impl_abs.f (a0 : Int) : Option (Int) := some (mx a0 (wrap64 (-a0)))
set_option maxHeartbeats 8000000 in
set_option maxRecDepth 100000 in
theorem impl_abs.calls (a0 : Int) (r : Int) (w : World) (h : impl_abs.f a0 = some r) :
    Calls Tryd.prog 50 #[.int .i64 a0] w fun e w' => e = .returned (.int .i64 r) ∧ Below w.heap.size w w' := by
  have HB := Aside0.mk (Below.refl w.heap.size w)
  have H : (some (mx a0 (wrap64 (-a0)))) = some r := h
  clear h
  obtain ⟨ji2, hji2⟩ : ∃ j_ : Int, (mx a0 (wrap64 (-a0))) = j_ := ⟨_, rfl⟩
  replace H : (some ji2) = some r := by first | (rw [hji2] at H; exact H) | (simp only [hji2] at H ⊢; exact H)
  have hji2_ : (if a0 < (wrap64 (-a0)) then (wrap64 (-a0)) else a0) = ji2 := hji2
  obtain rfl := Option.some.inj H
  go_enter Tryd.func50, Tryd.ntmps50
  go_wp2
  go_ret
  exact ⟨by first | rfl | (simp [errW_none, errW_some] <;> rfl) | (simp only [← hji2]; first | rfl | (simp [errW_none, errW_some] <;> rfl)) | (simp [*, errW_none, errW_some] <;> rfl), by repeat (first | (with_reducible first | exact HB.out | apply below_alloc | apply pw_below_drewN | apply below_drew1) | exact HB.out)⟩

/-! ### strings_Repeat: function 66 -/
def strings_Repeat.f (a0 : ByteArray) (a1 : Int) : Option ByteArray := if 0 ≤ a1 ∧ a1 ≤ 9223372036854775807 ∧ a0.size * a1.toNat ≤ 140737488355328 then some ⟨(Lib.repeatL a0.data.toList a1.toNat).toArray⟩ else none
theorem strings_Repeat.calls {b_ : Bool} (a0 : ByteArray) (a1 : Int) (r : ByteArray) (w : World) (hO_ : Ok_ b_ w) (h : strings_Repeat.f a0 a1 = some r) :
    Calls Tryd.prog 66 #[.string a0, .int .i64 a1] w fun e w' => e = .returned (.string r) ∧ Below w.heap.size w w' := by
  unfold strings_Repeat.f at h
  by_cases h2 : 0 ≤ a1 ∧ a1 ≤ 9223372036854775807 ∧ a0.size * a1.toNat ≤ 140737488355328
  · rw [if_pos h2] at h
    exact repeat_ a0 a1 r h2.1 h2.2.1 h2.2.2 w (Option.some.inj h)
  · rw [if_neg h2] at h; cases h

end Go.Proofs.YtoncbpohjdackaaDoor.TX
