/- The machine walks these functions as the plain functions say; written by a program of this session out of the translation, with contracts of the library's functions of our own. -/
import Derived.Test.YtoncbpohjdackaaDoorNN
import Derived.Test.YtoncbpohjdackaaDoorXA0
import Derived.Test.YtoncbpohjdackaaDoorXA2
namespace Go.Proofs.YtoncbpohjdackaaDoor.TX
open Go.RowKit Go.Proofs.YtoncbpohjdackaaDoorW.PrintWords Go.Proofs.YtoncbpohjdackaaDoorW.PrintLast Go.Proofs.YtoncbpohjdackaaDoorW.PrintMore
attribute [local go_sem] max2_int min2_int max_two min_two max_three min_three max_four min_four   -- for this text's walks alone
set_option linter.unusedVariables false
set_option linter.unusedSimpArgs false

/-! ### impl_padded: function 51 -/
def impl_padded.f (a0 : Int) (a1 : Int) : Option (ByteArray) := (impl_Decimal.f a0).bind fun t155 => ((strings_Repeat.f (⟨#[48]⟩ : ByteArray) (mx (wrap64 (a1 - (t155.size : Int))) 0)).bind fun t156 => (if t156.size + t155.size ≤ 9223372036854775807 then (some (t156 ++ t155)) else (none)))
set_option maxHeartbeats 8000000 in
set_option maxRecDepth 100000 in
theorem impl_padded.calls {b_ : Bool} (a0 : Int) (a1 : Int) (r : ByteArray) (w : World) (hO_ : Ok_ b_ w) (h : impl_padded.f a0 a1 = some r) :
    Calls Tryd.prog 51 #[.int .i64 a0, .int .i64 a1] w fun e w' => e = .returned (.string r) ∧ Below w.heap.size w w' := by
  have HB := Aside0.mk (Below.refl w.heap.size w)
  have H : ((impl_Decimal.f a0).bind fun t155 => ((strings_Repeat.f (⟨#[48]⟩ : ByteArray) (mx (wrap64 (a1 - (t155.size : Int))) 0)).bind fun t156 => (if t156.size + t155.size ≤ 9223372036854775807 then (some (t156 ++ t155)) else (none)))) = some r := h
  clear h
  replace H := Option.bind_eq_some_iff.mp H
  obtain ⟨t155, A30, H⟩ := H
  replace H : ((strings_Repeat.f (⟨#[48]⟩ : ByteArray) (mx (wrap64 (a1 - (t155.size : Int))) 0)).bind fun t156 => (if t156.size + t155.size ≤ 9223372036854775807 then (some (t156 ++ t155)) else (none))) = some r := H
  have A3 := Aside0.mk A30
  clear A30
  obtain ⟨ji4, hji4⟩ : ∃ j_ : Int, (mx (wrap64 (a1 - (t155.size : Int))) 0) = j_ := ⟨_, rfl⟩
  replace H : ((strings_Repeat.f (⟨#[48]⟩ : ByteArray) (ji4)).bind fun t156 => (if t156.size + t155.size ≤ 9223372036854775807 then (some (t156 ++ t155)) else (none))) = some r := by first | (rw [hji4] at H; exact H) | (simp only [hji4] at H ⊢; exact H)
  (try rw [hji4] at A3)
  (try (have hji4l : 0 ≤ ji4 := by (rw [← hji4]; unfold mx; (repeat' split) <;> omega)))
  (try (have hji4m : 0 ≤ ji4 := by omega))
  have hji4_ : (if (wrap64 (a1 - (t155.size : Int))) < 0 then 0 else (wrap64 (a1 - (t155.size : Int)))) = ji4 := hji4
  replace H := Option.bind_eq_some_iff.mp H
  obtain ⟨t156, A50, H⟩ := H
  replace H : (if t156.size + t155.size ≤ 9223372036854775807 then (some (t156 ++ t155)) else (none)) = some r := H
  have A5 := Aside0.mk A50
  clear A50
  by_cases c6 : t156.size + t155.size ≤ 9223372036854775807
  · rw [if_pos c6] at H
    have c6b0 := eq_true c6
    have c6b1 : decide (t156.size + t155.size ≤ 9223372036854775807) = true := decide_eq_true c6
    try have c6b2 : (9223372036854775807 < t156.size + t155.size) = False := eq_false (Nat.not_lt.2 c6)
    obtain rfl := Option.some.inj H
    go_enter Tryd.func51, Tryd.ntmps51
    go_wp2_with (first | ((with_reducible refine gate_callee (f := 48) rfl ?_); refine goesL_ (some 7) rfl rfl Tryd.func48 (by kernel_rfl) rfl #[.int .i64 a0] rfl (by (try simp only [List.map_toArray, List.map_cons, List.map_nil]); first | done | rfl | (simp only [List.length_drop, List.length_take]; rfl)) ?_; (with_reducible refine (impl_Decimal.calls a0 t155 _ (okd_ hO_ (by repeat (first | (with_reducible first | exact HB.out | apply below_alloc | apply pw_below_drewN | apply below_drew1) | exact HB.out))) A3.out).mono ?_); rintro e w7 ⟨rfl, hb⟩; refine ⟨_, rfl, ?_⟩; have n0_ := Aside0.mk (below_step (by repeat (first | (with_reducible first | exact HB.out | apply below_alloc | apply pw_below_drewN | apply below_drew1) | exact HB.out)) hb); clear HB; have HB := n0_; clear n0_; (try clear hb); (try clear hb2); (try clear hk); (try clear hi)) | ((with_reducible refine gate_callee (f := 66) rfl ?_); refine goesL_ (some 13) rfl rfl Tryd.func66 (by kernel_rfl) rfl #[.string (⟨#[48]⟩ : ByteArray), .int .i64 ji4] rfl (by (try simp only [List.map_toArray, List.map_cons, List.map_nil]); first | done | (simp only [hji4]; rfl) | rfl | (simp only [List.length_drop, List.length_take]; rfl)) ?_; (with_reducible refine (strings_Repeat.calls (⟨#[48]⟩ : ByteArray) ji4 t156 _ (okd_ hO_ (by repeat (first | (with_reducible first | exact HB.out | apply below_alloc | apply pw_below_drewN | apply below_drew1) | exact HB.out))) A5.out).mono ?_); rintro e w8 ⟨rfl, hb⟩; refine ⟨_, rfl, ?_⟩; have n0_ := Aside0.mk (below_step (by repeat (first | (with_reducible first | exact HB.out | apply below_alloc | apply pw_below_drewN | apply below_drew1) | exact HB.out)) hb); clear HB; have HB := n0_; clear n0_; (try clear hb); (try clear hb2); (try clear hk); (try clear hi)))
    go_ret
    exact ⟨by first | rfl | (simp [errW_none, errW_some] <;> rfl) | (simp only [← hji4]; first | rfl | (simp [errW_none, errW_some] <;> rfl)) | (simp [*, errW_none, errW_some] <;> rfl), by repeat (first | (with_reducible first | exact HB.out | apply below_alloc | apply pw_below_drewN | apply below_drew1) | exact HB.out)⟩
  · rw [if_neg c6] at H
    exact absurd H (by simp)

/-! ### impl_angleText: function 32 -/
def impl_angleText.j0 : Nat → Int → ByteArray → Option (ByteArray)
  | 0, _, _ => none
  | k + 1, x0, x3 => (impl_abs.f x0).bind fun t157 => ((impl_abs.f x0).bind fun t158 => ((impl_Decimal.f (wrap64 (Int.tdiv t157 10000000))).bind fun t159 => (if x3.size + t159.size ≤ 9223372036854775807 then (if (x3 ++ t159).size + 1 ≤ 9223372036854775807 then ((impl_padded.f (wrap64 (Int.tdiv (wrap64 ((Int.tmod t158 10000000) * 36)) 6000000)) 2).bind fun t160 => (if ((x3 ++ t159) ++ (⟨#[100]⟩ : ByteArray)).size + t160.size ≤ 9223372036854775807 then (if (((x3 ++ t159) ++ (⟨#[100]⟩ : ByteArray)) ++ t160).size + 1 ≤ 9223372036854775807 then ((impl_padded.f (wrap64 (Int.tdiv (Int.tmod (wrap64 ((Int.tmod t158 10000000) * 36)) 6000000) 100000)) 2).bind fun t161 => (if ((((x3 ++ t159) ++ (⟨#[100]⟩ : ByteArray)) ++ t160) ++ (⟨#[109]⟩ : ByteArray)).size + t161.size ≤ 9223372036854775807 then (if (((((x3 ++ t159) ++ (⟨#[100]⟩ : ByteArray)) ++ t160) ++ (⟨#[109]⟩ : ByteArray)) ++ t161).size + 1 ≤ 9223372036854775807 then ((impl_padded.f (Int.tmod (Int.tmod (wrap64 ((Int.tmod t158 10000000) * 36)) 6000000) 100000) 5).bind fun t162 => (if ((((((x3 ++ t159) ++ (⟨#[100]⟩ : ByteArray)) ++ t160) ++ (⟨#[109]⟩ : ByteArray)) ++ t161) ++ (⟨#[46]⟩ : ByteArray)).size + t162.size ≤ 9223372036854775807 then (if (((((((x3 ++ t159) ++ (⟨#[100]⟩ : ByteArray)) ++ t160) ++ (⟨#[109]⟩ : ByteArray)) ++ t161) ++ (⟨#[46]⟩ : ByteArray)) ++ t162).size + 1 ≤ 9223372036854775807 then (some ((((((((x3 ++ t159) ++ (⟨#[100]⟩ : ByteArray)) ++ t160) ++ (⟨#[109]⟩ : ByteArray)) ++ t161) ++ (⟨#[46]⟩ : ByteArray)) ++ t162) ++ (⟨#[115]⟩ : ByteArray))) else (none)) else (none))) else (none)) else (none))) else (none)) else (none))) else (none)) else (none))))
def impl_angleText.f (k : Nat) (a0 : Int) : Option (ByteArray) := if a0 < 0 then (impl_angleText.j0 k a0 (⟨#[45]⟩ : ByteArray)) else (impl_angleText.j0 k a0 (⟨#[]⟩ : ByteArray))
theorem impl_angleText.mono_l : ∀ k, (∀ y0 y1, LeO (impl_angleText.j0 k y0 y1) (impl_angleText.j0 (k + 1) y0 y1))
  | 0 => fun _ _ r h => by simp [impl_angleText.j0] at h
  | k + 1 => by
    have ih0 := impl_angleText.mono_l k
    · intro y0 y1
      unfold impl_angleText.j0
      repeat' first
      | (with_reducible exact ih0 _ _)
      | (with_reducible exact LeO.refl _)
      | (with_reducible exact LeO.none _)
      | (with_reducible refine LeO.ite ?_ ?_)
      | (with_reducible refine LeO.bind ?_ (fun _ => ?_))
      | exact ih0 _ _
      | exact LeO.none _
      | refine LeO.ite ?_ ?_
      | refine LeO.bind ?_ (fun _ => ?_)
theorem impl_angleText.mono : ∀ a0 k, LeO (impl_angleText.f k a0) (impl_angleText.f (k + 1) a0) := by
  intro a0 k
  have ih0 := impl_angleText.mono_l k
  unfold impl_angleText.f
  repeat' first
      | (with_reducible exact ih0 _ _)
      | (with_reducible exact LeO.refl _)
      | (with_reducible exact LeO.none _)
      | (with_reducible refine LeO.ite ?_ ?_)
      | (with_reducible refine LeO.bind ?_ (fun _ => ?_))
      | exact ih0 _ _
      | exact LeO.none _
      | refine LeO.ite ?_ ?_
      | refine LeO.bind ?_ (fun _ => ?_)
set_option maxHeartbeats 8000000 in
set_option maxRecDepth 100000 in
theorem impl_angleText.calls {b_ : Bool} (k : Nat) (a0 : Int) (r : ByteArray) (w : World) (hO_ : Ok_ b_ w) (h : impl_angleText.f k a0 = some r) :
    Calls Tryd.prog 32 #[.int .i64 a0] w fun e w' => e = .returned (.string r) ∧ Below w.heap.size w w' := by
  have HB := Aside0.mk (Below.refl w.heap.size w)
  have H : (if a0 < 0 then (impl_angleText.j0 k a0 (⟨#[45]⟩ : ByteArray)) else (impl_angleText.j0 k a0 (⟨#[]⟩ : ByteArray))) = some r := h
  clear h
  have HC2 := Aside0.mk H
  clear H
  go_enter Tryd.func32, Tryd.ntmps32
  go_upto_if 9 with (fail)
  go_cut [3] (fun v3 wc => ∃ (kq : Nat) (x3_1 : ByteArray), v3 = .string x3_1 ∧ Aside0 (impl_angleText.j0 kq a0 x3_1 = some r) ∧ Aside0 (kq ≤ k) ∧ Aside0 (Below w.heap.size w wc))
  case first =>
    have H := HC2.out
    clear HC2
    by_cases c3 : a0 < 0
    · rw [if_pos c3] at H
      have c3b0 : decide (a0 < 0) = true := decide_eq_true c3
      clear c3
      (first | rw [c3b0] | (simp only [i64_w, i32_w]; rw [c3b0]) | skip)
      have H' := Aside0.mk H
      clear H
      go_wp2
      go_meet
      case rel => exact ⟨_, ((⟨#[45]⟩ : ByteArray)), (by first | rfl | (simp; done) | (simp [*]; done)), H', ⟨by first | omega | exact Nat.le_refl _⟩, ⟨by repeat (first | (with_reducible first | exact HB.out | apply below_alloc | apply pw_below_drewN | apply below_drew1) | exact HB.out)⟩⟩
    · rw [if_neg c3] at H
      have c3b0 : decide (a0 < 0) = false := decide_eq_false c3
      clear c3
      (first | rw [c3b0] | (simp only [i64_w, i32_w]; rw [c3b0]) | skip)
      have H' := Aside0.mk H
      clear H
      go_wp2
      go_meet
      case rel => exact ⟨_, ((⟨#[]⟩ : ByteArray)), (by first | rfl | (simp; done) | (simp [*]; done)), H', ⟨by first | omega | exact Nat.le_refl _⟩, ⟨by repeat (first | (with_reducible first | exact HB.out | apply below_alloc | apply pw_below_drewN | apply below_drew1) | exact HB.out)⟩⟩
  case rest =>
    clear HC2
    try clear p2
    try clear c3
    try clear c3b0
    obtain ⟨kq, x3_1, rfl, HA, HJ1, HB⟩ := hcut
    cases kq with
    | zero => exact absurd HA.out (by simp [impl_angleText.j0])
    | succ kj1 =>
      have H := HA.out
      clear HA
      simp only [impl_angleText.j0] at H
      replace H := Option.bind_eq_some_iff.mp H
      obtain ⟨t157, A40, H⟩ := H
      replace H : ((impl_abs.f a0).bind fun t158 => ((impl_Decimal.f (wrap64 (Int.tdiv t157 10000000))).bind fun t159 => (if x3_1.size + t159.size ≤ 9223372036854775807 then (if (x3_1 ++ t159).size + 1 ≤ 9223372036854775807 then ((impl_padded.f (wrap64 (Int.tdiv (wrap64 ((Int.tmod t158 10000000) * 36)) 6000000)) 2).bind fun t160 => (if ((x3_1 ++ t159) ++ (⟨#[100]⟩ : ByteArray)).size + t160.size ≤ 9223372036854775807 then (if (((x3_1 ++ t159) ++ (⟨#[100]⟩ : ByteArray)) ++ t160).size + 1 ≤ 9223372036854775807 then ((impl_padded.f (wrap64 (Int.tdiv (Int.tmod (wrap64 ((Int.tmod t158 10000000) * 36)) 6000000) 100000)) 2).bind fun t161 => (if ((((x3_1 ++ t159) ++ (⟨#[100]⟩ : ByteArray)) ++ t160) ++ (⟨#[109]⟩ : ByteArray)).size + t161.size ≤ 9223372036854775807 then (if (((((x3_1 ++ t159) ++ (⟨#[100]⟩ : ByteArray)) ++ t160) ++ (⟨#[109]⟩ : ByteArray)) ++ t161).size + 1 ≤ 9223372036854775807 then ((impl_padded.f (Int.tmod (Int.tmod (wrap64 ((Int.tmod t158 10000000) * 36)) 6000000) 100000) 5).bind fun t162 => (if ((((((x3_1 ++ t159) ++ (⟨#[100]⟩ : ByteArray)) ++ t160) ++ (⟨#[109]⟩ : ByteArray)) ++ t161) ++ (⟨#[46]⟩ : ByteArray)).size + t162.size ≤ 9223372036854775807 then (if (((((((x3_1 ++ t159) ++ (⟨#[100]⟩ : ByteArray)) ++ t160) ++ (⟨#[109]⟩ : ByteArray)) ++ t161) ++ (⟨#[46]⟩ : ByteArray)) ++ t162).size + 1 ≤ 9223372036854775807 then (some ((((((((x3_1 ++ t159) ++ (⟨#[100]⟩ : ByteArray)) ++ t160) ++ (⟨#[109]⟩ : ByteArray)) ++ t161) ++ (⟨#[46]⟩ : ByteArray)) ++ t162) ++ (⟨#[115]⟩ : ByteArray))) else (none)) else (none))) else (none)) else (none))) else (none)) else (none))) else (none)) else (none)))) = some r := H
      have A4 := Aside0.mk A40
      clear A40
      replace H := Option.bind_eq_some_iff.mp H
      obtain ⟨t158, A50, H⟩ := H
      replace H : ((impl_Decimal.f (wrap64 (Int.tdiv t157 10000000))).bind fun t159 => (if x3_1.size + t159.size ≤ 9223372036854775807 then (if (x3_1 ++ t159).size + 1 ≤ 9223372036854775807 then ((impl_padded.f (wrap64 (Int.tdiv (wrap64 ((Int.tmod t158 10000000) * 36)) 6000000)) 2).bind fun t160 => (if ((x3_1 ++ t159) ++ (⟨#[100]⟩ : ByteArray)).size + t160.size ≤ 9223372036854775807 then (if (((x3_1 ++ t159) ++ (⟨#[100]⟩ : ByteArray)) ++ t160).size + 1 ≤ 9223372036854775807 then ((impl_padded.f (wrap64 (Int.tdiv (Int.tmod (wrap64 ((Int.tmod t158 10000000) * 36)) 6000000) 100000)) 2).bind fun t161 => (if ((((x3_1 ++ t159) ++ (⟨#[100]⟩ : ByteArray)) ++ t160) ++ (⟨#[109]⟩ : ByteArray)).size + t161.size ≤ 9223372036854775807 then (if (((((x3_1 ++ t159) ++ (⟨#[100]⟩ : ByteArray)) ++ t160) ++ (⟨#[109]⟩ : ByteArray)) ++ t161).size + 1 ≤ 9223372036854775807 then ((impl_padded.f (Int.tmod (Int.tmod (wrap64 ((Int.tmod t158 10000000) * 36)) 6000000) 100000) 5).bind fun t162 => (if ((((((x3_1 ++ t159) ++ (⟨#[100]⟩ : ByteArray)) ++ t160) ++ (⟨#[109]⟩ : ByteArray)) ++ t161) ++ (⟨#[46]⟩ : ByteArray)).size + t162.size ≤ 9223372036854775807 then (if (((((((x3_1 ++ t159) ++ (⟨#[100]⟩ : ByteArray)) ++ t160) ++ (⟨#[109]⟩ : ByteArray)) ++ t161) ++ (⟨#[46]⟩ : ByteArray)) ++ t162).size + 1 ≤ 9223372036854775807 then (some ((((((((x3_1 ++ t159) ++ (⟨#[100]⟩ : ByteArray)) ++ t160) ++ (⟨#[109]⟩ : ByteArray)) ++ t161) ++ (⟨#[46]⟩ : ByteArray)) ++ t162) ++ (⟨#[115]⟩ : ByteArray))) else (none)) else (none))) else (none)) else (none))) else (none)) else (none))) else (none)) else (none))) = some r := H
      have A5 := Aside0.mk A50
      clear A50
      replace H := Option.bind_eq_some_iff.mp H
      obtain ⟨t159, A60, H⟩ := H
      replace H : (if x3_1.size + t159.size ≤ 9223372036854775807 then (if (x3_1 ++ t159).size + 1 ≤ 9223372036854775807 then ((impl_padded.f (wrap64 (Int.tdiv (wrap64 ((Int.tmod t158 10000000) * 36)) 6000000)) 2).bind fun t160 => (if ((x3_1 ++ t159) ++ (⟨#[100]⟩ : ByteArray)).size + t160.size ≤ 9223372036854775807 then (if (((x3_1 ++ t159) ++ (⟨#[100]⟩ : ByteArray)) ++ t160).size + 1 ≤ 9223372036854775807 then ((impl_padded.f (wrap64 (Int.tdiv (Int.tmod (wrap64 ((Int.tmod t158 10000000) * 36)) 6000000) 100000)) 2).bind fun t161 => (if ((((x3_1 ++ t159) ++ (⟨#[100]⟩ : ByteArray)) ++ t160) ++ (⟨#[109]⟩ : ByteArray)).size + t161.size ≤ 9223372036854775807 then (if (((((x3_1 ++ t159) ++ (⟨#[100]⟩ : ByteArray)) ++ t160) ++ (⟨#[109]⟩ : ByteArray)) ++ t161).size + 1 ≤ 9223372036854775807 then ((impl_padded.f (Int.tmod (Int.tmod (wrap64 ((Int.tmod t158 10000000) * 36)) 6000000) 100000) 5).bind fun t162 => (if ((((((x3_1 ++ t159) ++ (⟨#[100]⟩ : ByteArray)) ++ t160) ++ (⟨#[109]⟩ : ByteArray)) ++ t161) ++ (⟨#[46]⟩ : ByteArray)).size + t162.size ≤ 9223372036854775807 then (if (((((((x3_1 ++ t159) ++ (⟨#[100]⟩ : ByteArray)) ++ t160) ++ (⟨#[109]⟩ : ByteArray)) ++ t161) ++ (⟨#[46]⟩ : ByteArray)) ++ t162).size + 1 ≤ 9223372036854775807 then (some ((((((((x3_1 ++ t159) ++ (⟨#[100]⟩ : ByteArray)) ++ t160) ++ (⟨#[109]⟩ : ByteArray)) ++ t161) ++ (⟨#[46]⟩ : ByteArray)) ++ t162) ++ (⟨#[115]⟩ : ByteArray))) else (none)) else (none))) else (none)) else (none))) else (none)) else (none))) else (none)) else (none)) = some r := H
      have A6 := Aside0.mk A60
      clear A60
      by_cases c7 : x3_1.size + t159.size ≤ 9223372036854775807
      · rw [if_pos c7] at H
        have c7b0 := eq_true c7
        have c7b1 : decide (x3_1.size + t159.size ≤ 9223372036854775807) = true := decide_eq_true c7
        try have c7b2 : (9223372036854775807 < x3_1.size + t159.size) = False := eq_false (Nat.not_lt.2 c7)
        by_cases c8 : (x3_1 ++ t159).size + 1 ≤ 9223372036854775807
        · rw [if_pos c8] at H
          have c8b0 := eq_true c8
          have c8b1 : decide ((x3_1 ++ t159).size + 1 ≤ 9223372036854775807) = true := decide_eq_true c8
          try have c8b2 : (9223372036854775807 < (x3_1 ++ t159).size + 1) = False := eq_false (Nat.not_lt.2 c8)
          have c8z := c8
          try simp only [ByteArray.size_append] at c8z
          try have c8b3 := eq_false (Nat.not_lt.2 c8z)
          try have c8b4 := eq_true c8z
          replace H := Option.bind_eq_some_iff.mp H
          obtain ⟨t160, A90, H⟩ := H
          replace H : (if ((x3_1 ++ t159) ++ (⟨#[100]⟩ : ByteArray)).size + t160.size ≤ 9223372036854775807 then (if (((x3_1 ++ t159) ++ (⟨#[100]⟩ : ByteArray)) ++ t160).size + 1 ≤ 9223372036854775807 then ((impl_padded.f (wrap64 (Int.tdiv (Int.tmod (wrap64 ((Int.tmod t158 10000000) * 36)) 6000000) 100000)) 2).bind fun t161 => (if ((((x3_1 ++ t159) ++ (⟨#[100]⟩ : ByteArray)) ++ t160) ++ (⟨#[109]⟩ : ByteArray)).size + t161.size ≤ 9223372036854775807 then (if (((((x3_1 ++ t159) ++ (⟨#[100]⟩ : ByteArray)) ++ t160) ++ (⟨#[109]⟩ : ByteArray)) ++ t161).size + 1 ≤ 9223372036854775807 then ((impl_padded.f (Int.tmod (Int.tmod (wrap64 ((Int.tmod t158 10000000) * 36)) 6000000) 100000) 5).bind fun t162 => (if ((((((x3_1 ++ t159) ++ (⟨#[100]⟩ : ByteArray)) ++ t160) ++ (⟨#[109]⟩ : ByteArray)) ++ t161) ++ (⟨#[46]⟩ : ByteArray)).size + t162.size ≤ 9223372036854775807 then (if (((((((x3_1 ++ t159) ++ (⟨#[100]⟩ : ByteArray)) ++ t160) ++ (⟨#[109]⟩ : ByteArray)) ++ t161) ++ (⟨#[46]⟩ : ByteArray)) ++ t162).size + 1 ≤ 9223372036854775807 then (some ((((((((x3_1 ++ t159) ++ (⟨#[100]⟩ : ByteArray)) ++ t160) ++ (⟨#[109]⟩ : ByteArray)) ++ t161) ++ (⟨#[46]⟩ : ByteArray)) ++ t162) ++ (⟨#[115]⟩ : ByteArray))) else (none)) else (none))) else (none)) else (none))) else (none)) else (none)) = some r := H
          have A9 := Aside0.mk A90
          clear A90
          by_cases c10 : ((x3_1 ++ t159) ++ (⟨#[100]⟩ : ByteArray)).size + t160.size ≤ 9223372036854775807
          · rw [if_pos c10] at H
            have c10b0 := eq_true c10
            have c10b1 : decide (((x3_1 ++ t159) ++ (⟨#[100]⟩ : ByteArray)).size + t160.size ≤ 9223372036854775807) = true := decide_eq_true c10
            try have c10b2 : (9223372036854775807 < ((x3_1 ++ t159) ++ (⟨#[100]⟩ : ByteArray)).size + t160.size) = False := eq_false (Nat.not_lt.2 c10)
            have c10z := c10
            try simp only [ByteArray.size_append, show (⟨#[100]⟩ : ByteArray).size = 1 from rfl] at c10z
            try have c10b3 := eq_false (Nat.not_lt.2 c10z)
            try have c10b4 := eq_true c10z
            by_cases c11 : (((x3_1 ++ t159) ++ (⟨#[100]⟩ : ByteArray)) ++ t160).size + 1 ≤ 9223372036854775807
            · rw [if_pos c11] at H
              have c11b0 := eq_true c11
              have c11b1 : decide ((((x3_1 ++ t159) ++ (⟨#[100]⟩ : ByteArray)) ++ t160).size + 1 ≤ 9223372036854775807) = true := decide_eq_true c11
              try have c11b2 : (9223372036854775807 < (((x3_1 ++ t159) ++ (⟨#[100]⟩ : ByteArray)) ++ t160).size + 1) = False := eq_false (Nat.not_lt.2 c11)
              have c11z := c11
              try simp only [ByteArray.size_append, show (⟨#[100]⟩ : ByteArray).size = 1 from rfl] at c11z
              try have c11b3 := eq_false (Nat.not_lt.2 c11z)
              try have c11b4 := eq_true c11z
              replace H := Option.bind_eq_some_iff.mp H
              obtain ⟨t161, A120, H⟩ := H
              replace H : (if ((((x3_1 ++ t159) ++ (⟨#[100]⟩ : ByteArray)) ++ t160) ++ (⟨#[109]⟩ : ByteArray)).size + t161.size ≤ 9223372036854775807 then (if (((((x3_1 ++ t159) ++ (⟨#[100]⟩ : ByteArray)) ++ t160) ++ (⟨#[109]⟩ : ByteArray)) ++ t161).size + 1 ≤ 9223372036854775807 then ((impl_padded.f (Int.tmod (Int.tmod (wrap64 ((Int.tmod t158 10000000) * 36)) 6000000) 100000) 5).bind fun t162 => (if ((((((x3_1 ++ t159) ++ (⟨#[100]⟩ : ByteArray)) ++ t160) ++ (⟨#[109]⟩ : ByteArray)) ++ t161) ++ (⟨#[46]⟩ : ByteArray)).size + t162.size ≤ 9223372036854775807 then (if (((((((x3_1 ++ t159) ++ (⟨#[100]⟩ : ByteArray)) ++ t160) ++ (⟨#[109]⟩ : ByteArray)) ++ t161) ++ (⟨#[46]⟩ : ByteArray)) ++ t162).size + 1 ≤ 9223372036854775807 then (some ((((((((x3_1 ++ t159) ++ (⟨#[100]⟩ : ByteArray)) ++ t160) ++ (⟨#[109]⟩ : ByteArray)) ++ t161) ++ (⟨#[46]⟩ : ByteArray)) ++ t162) ++ (⟨#[115]⟩ : ByteArray))) else (none)) else (none))) else (none)) else (none)) = some r := H
              have A12 := Aside0.mk A120
              clear A120
              by_cases c13 : ((((x3_1 ++ t159) ++ (⟨#[100]⟩ : ByteArray)) ++ t160) ++ (⟨#[109]⟩ : ByteArray)).size + t161.size ≤ 9223372036854775807
              · rw [if_pos c13] at H
                have c13b0 := eq_true c13
                have c13b1 : decide (((((x3_1 ++ t159) ++ (⟨#[100]⟩ : ByteArray)) ++ t160) ++ (⟨#[109]⟩ : ByteArray)).size + t161.size ≤ 9223372036854775807) = true := decide_eq_true c13
                try have c13b2 : (9223372036854775807 < ((((x3_1 ++ t159) ++ (⟨#[100]⟩ : ByteArray)) ++ t160) ++ (⟨#[109]⟩ : ByteArray)).size + t161.size) = False := eq_false (Nat.not_lt.2 c13)
                have c13z := c13
                try simp only [ByteArray.size_append, show (⟨#[100]⟩ : ByteArray).size = 1 from rfl, show (⟨#[109]⟩ : ByteArray).size = 1 from rfl] at c13z
                try have c13b3 := eq_false (Nat.not_lt.2 c13z)
                try have c13b4 := eq_true c13z
                by_cases c14 : (((((x3_1 ++ t159) ++ (⟨#[100]⟩ : ByteArray)) ++ t160) ++ (⟨#[109]⟩ : ByteArray)) ++ t161).size + 1 ≤ 9223372036854775807
                · rw [if_pos c14] at H
                  have c14b0 := eq_true c14
                  have c14b1 : decide ((((((x3_1 ++ t159) ++ (⟨#[100]⟩ : ByteArray)) ++ t160) ++ (⟨#[109]⟩ : ByteArray)) ++ t161).size + 1 ≤ 9223372036854775807) = true := decide_eq_true c14
                  try have c14b2 : (9223372036854775807 < (((((x3_1 ++ t159) ++ (⟨#[100]⟩ : ByteArray)) ++ t160) ++ (⟨#[109]⟩ : ByteArray)) ++ t161).size + 1) = False := eq_false (Nat.not_lt.2 c14)
                  have c14z := c14
                  try simp only [ByteArray.size_append, show (⟨#[100]⟩ : ByteArray).size = 1 from rfl, show (⟨#[109]⟩ : ByteArray).size = 1 from rfl] at c14z
                  try have c14b3 := eq_false (Nat.not_lt.2 c14z)
                  try have c14b4 := eq_true c14z
                  replace H := Option.bind_eq_some_iff.mp H
                  obtain ⟨t162, A150, H⟩ := H
                  replace H : (if ((((((x3_1 ++ t159) ++ (⟨#[100]⟩ : ByteArray)) ++ t160) ++ (⟨#[109]⟩ : ByteArray)) ++ t161) ++ (⟨#[46]⟩ : ByteArray)).size + t162.size ≤ 9223372036854775807 then (if (((((((x3_1 ++ t159) ++ (⟨#[100]⟩ : ByteArray)) ++ t160) ++ (⟨#[109]⟩ : ByteArray)) ++ t161) ++ (⟨#[46]⟩ : ByteArray)) ++ t162).size + 1 ≤ 9223372036854775807 then (some ((((((((x3_1 ++ t159) ++ (⟨#[100]⟩ : ByteArray)) ++ t160) ++ (⟨#[109]⟩ : ByteArray)) ++ t161) ++ (⟨#[46]⟩ : ByteArray)) ++ t162) ++ (⟨#[115]⟩ : ByteArray))) else (none)) else (none)) = some r := H
                  have A15 := Aside0.mk A150
                  clear A150
                  by_cases c16 : ((((((x3_1 ++ t159) ++ (⟨#[100]⟩ : ByteArray)) ++ t160) ++ (⟨#[109]⟩ : ByteArray)) ++ t161) ++ (⟨#[46]⟩ : ByteArray)).size + t162.size ≤ 9223372036854775807
                  · rw [if_pos c16] at H
                    have c16b0 := eq_true c16
                    have c16b1 : decide (((((((x3_1 ++ t159) ++ (⟨#[100]⟩ : ByteArray)) ++ t160) ++ (⟨#[109]⟩ : ByteArray)) ++ t161) ++ (⟨#[46]⟩ : ByteArray)).size + t162.size ≤ 9223372036854775807) = true := decide_eq_true c16
                    try have c16b2 : (9223372036854775807 < ((((((x3_1 ++ t159) ++ (⟨#[100]⟩ : ByteArray)) ++ t160) ++ (⟨#[109]⟩ : ByteArray)) ++ t161) ++ (⟨#[46]⟩ : ByteArray)).size + t162.size) = False := eq_false (Nat.not_lt.2 c16)
                    have c16z := c16
                    try simp only [ByteArray.size_append, show (⟨#[100]⟩ : ByteArray).size = 1 from rfl, show (⟨#[109]⟩ : ByteArray).size = 1 from rfl, show (⟨#[46]⟩ : ByteArray).size = 1 from rfl] at c16z
                    try have c16b3 := eq_false (Nat.not_lt.2 c16z)
                    try have c16b4 := eq_true c16z
                    by_cases c17 : (((((((x3_1 ++ t159) ++ (⟨#[100]⟩ : ByteArray)) ++ t160) ++ (⟨#[109]⟩ : ByteArray)) ++ t161) ++ (⟨#[46]⟩ : ByteArray)) ++ t162).size + 1 ≤ 9223372036854775807
                    · rw [if_pos c17] at H
                      have c17b0 := eq_true c17
                      have c17b1 : decide ((((((((x3_1 ++ t159) ++ (⟨#[100]⟩ : ByteArray)) ++ t160) ++ (⟨#[109]⟩ : ByteArray)) ++ t161) ++ (⟨#[46]⟩ : ByteArray)) ++ t162).size + 1 ≤ 9223372036854775807) = true := decide_eq_true c17
                      try have c17b2 : (9223372036854775807 < (((((((x3_1 ++ t159) ++ (⟨#[100]⟩ : ByteArray)) ++ t160) ++ (⟨#[109]⟩ : ByteArray)) ++ t161) ++ (⟨#[46]⟩ : ByteArray)) ++ t162).size + 1) = False := eq_false (Nat.not_lt.2 c17)
                      have c17z := c17
                      try simp only [ByteArray.size_append, show (⟨#[100]⟩ : ByteArray).size = 1 from rfl, show (⟨#[109]⟩ : ByteArray).size = 1 from rfl, show (⟨#[46]⟩ : ByteArray).size = 1 from rfl] at c17z
                      try have c17b3 := eq_false (Nat.not_lt.2 c17z)
                      try have c17b4 := eq_true c17z
                      obtain rfl := Option.some.inj H
                      go_wp2_with (first | ((with_reducible refine gate_callee (f := 50) rfl ?_); refine goesL_ (some 11) rfl rfl Tryd.func50 (by kernel_rfl) rfl #[.int .i64 a0] rfl (by (try simp only [List.map_toArray, List.map_cons, List.map_nil]); first | done | rfl | (simp only [List.length_drop, List.length_take]; rfl)) ?_; (with_reducible refine (impl_abs.calls a0 t157 _ A4.out).mono ?_); rintro e w18 ⟨rfl, hb⟩; refine ⟨_, rfl, ?_⟩; have n0_ := Aside0.mk (below_step (by repeat (first | (with_reducible first | exact HB.out | apply below_alloc | apply pw_below_drewN | apply below_drew1) | exact HB.out)) hb); clear HB; have HB := n0_; clear n0_; (try clear hb); (try clear hb2); (try clear hk); (try clear hi)) | ((with_reducible refine gate_callee (f := 50) rfl ?_); refine goesL_ (some 14) rfl rfl Tryd.func50 (by kernel_rfl) rfl #[.int .i64 a0] rfl (by (try simp only [List.map_toArray, List.map_cons, List.map_nil]); first | done | rfl | (simp only [List.length_drop, List.length_take]; rfl)) ?_; (with_reducible refine (impl_abs.calls a0 t158 _ A5.out).mono ?_); rintro e w19 ⟨rfl, hb⟩; refine ⟨_, rfl, ?_⟩; have n0_ := Aside0.mk (below_step (by repeat (first | (with_reducible first | exact HB.out | apply below_alloc | apply pw_below_drewN | apply below_drew1) | exact HB.out)) hb); clear HB; have HB := n0_; clear n0_; (try clear hb); (try clear hb2); (try clear hk); (try clear hi)) | ((with_reducible refine gate_callee (f := 48) rfl ?_); refine goesL_ (some 23) rfl rfl Tryd.func48 (by kernel_rfl) rfl #[.int .i64 (wrap64 (Int.tdiv t157 10000000))] rfl (by (try simp only [List.map_toArray, List.map_cons, List.map_nil]); first | done | rfl | (simp only [List.length_drop, List.length_take]; rfl)) ?_; (with_reducible refine (impl_Decimal.calls (wrap64 (Int.tdiv t157 10000000)) t159 _ (okd_ hO_ (by repeat (first | (with_reducible first | exact HB.out | apply below_alloc | apply pw_below_drewN | apply below_drew1) | exact HB.out))) A6.out).mono ?_); rintro e w20 ⟨rfl, hb⟩; refine ⟨_, rfl, ?_⟩; have n0_ := Aside0.mk (below_step (by repeat (first | (with_reducible first | exact HB.out | apply below_alloc | apply pw_below_drewN | apply below_drew1) | exact HB.out)) hb); clear HB; have HB := n0_; clear n0_; (try clear hb); (try clear hb2); (try clear hk); (try clear hi)) | ((with_reducible refine gate_callee (f := 51) rfl ?_); refine goesL_ (some 27) rfl rfl Tryd.func51 (by kernel_rfl) rfl #[.int .i64 (wrap64 (Int.tdiv (wrap64 ((Int.tmod t158 10000000) * 36)) 6000000)), .int .i64 2] rfl (by (try simp only [List.map_toArray, List.map_cons, List.map_nil]); first | done | rfl | (simp only [List.length_drop, List.length_take]; rfl)) ?_; (with_reducible refine (impl_padded.calls (wrap64 (Int.tdiv (wrap64 ((Int.tmod t158 10000000) * 36)) 6000000)) 2 t160 _ (okd_ hO_ (by repeat (first | (with_reducible first | exact HB.out | apply below_alloc | apply pw_below_drewN | apply below_drew1) | exact HB.out))) A9.out).mono ?_); rintro e w21 ⟨rfl, hb⟩; refine ⟨_, rfl, ?_⟩; have n0_ := Aside0.mk (below_step (by repeat (first | (with_reducible first | exact HB.out | apply below_alloc | apply pw_below_drewN | apply below_drew1) | exact HB.out)) hb); clear HB; have HB := n0_; clear n0_; (try clear hb); (try clear hb2); (try clear hk); (try clear hi)) | ((with_reducible refine gate_callee (f := 51) rfl ?_); refine goesL_ (some 32) rfl rfl Tryd.func51 (by kernel_rfl) rfl #[.int .i64 (wrap64 (Int.tdiv (Int.tmod (wrap64 ((Int.tmod t158 10000000) * 36)) 6000000) 100000)), .int .i64 2] rfl (by (try simp only [List.map_toArray, List.map_cons, List.map_nil]); first | done | rfl | (simp only [List.length_drop, List.length_take]; rfl)) ?_; (with_reducible refine (impl_padded.calls (wrap64 (Int.tdiv (Int.tmod (wrap64 ((Int.tmod t158 10000000) * 36)) 6000000) 100000)) 2 t161 _ (okd_ hO_ (by repeat (first | (with_reducible first | exact HB.out | apply below_alloc | apply pw_below_drewN | apply below_drew1) | exact HB.out))) A12.out).mono ?_); rintro e w22 ⟨rfl, hb⟩; refine ⟨_, rfl, ?_⟩; have n0_ := Aside0.mk (below_step (by repeat (first | (with_reducible first | exact HB.out | apply below_alloc | apply pw_below_drewN | apply below_drew1) | exact HB.out)) hb); clear HB; have HB := n0_; clear n0_; (try clear hb); (try clear hb2); (try clear hk); (try clear hi)) | ((with_reducible refine gate_callee (f := 51) rfl ?_); refine goesL_ (some 37) rfl rfl Tryd.func51 (by kernel_rfl) rfl #[.int .i64 (Int.tmod (wrap64 ((Int.tmod t158 10000000) * 36)) 100000), .int .i64 5] rfl (by (try simp only [List.map_toArray, List.map_cons, List.map_nil]); first | done | rfl | (simp only [List.length_drop, List.length_take]; rfl)) ?_; (with_reducible refine (impl_padded.calls (Int.tmod (wrap64 ((Int.tmod t158 10000000) * 36)) 100000) 5 t162 _ (okd_ hO_ (by repeat (first | (with_reducible first | exact HB.out | apply below_alloc | apply pw_below_drewN | apply below_drew1) | exact HB.out))) (by have z := A15.out; rw [tt_] at z; exact z)).mono ?_); rintro e w23 ⟨rfl, hb⟩; refine ⟨_, rfl, ?_⟩; have n0_ := Aside0.mk (below_step (by repeat (first | (with_reducible first | exact HB.out | apply below_alloc | apply pw_below_drewN | apply below_drew1) | exact HB.out)) hb); clear HB; have HB := n0_; clear n0_; (try clear hb); (try clear hb2); (try clear hk); (try clear hi)))
                      go_ret
                      exact ⟨by first | rfl | (simp [errW_none, errW_some] <;> rfl) | (simp [*, errW_none, errW_some] <;> rfl), by repeat (first | (with_reducible first | exact HB.out | apply below_alloc | apply pw_below_drewN | apply below_drew1) | exact HB.out)⟩
                    · rw [if_neg c17] at H
                      exact absurd H (by simp)
                  · rw [if_neg c16] at H
                    exact absurd H (by simp)
                · rw [if_neg c14] at H
                  exact absurd H (by simp)
              · rw [if_neg c13] at H
                exact absurd H (by simp)
            · rw [if_neg c11] at H
              exact absurd H (by simp)
          · rw [if_neg c10] at H
            exact absurd H (by simp)
        · rw [if_neg c8] at H
          exact absurd H (by simp)
      · rw [if_neg c7] at H
        exact absurd H (by simp)

/-! ### strings_Cut: function 39 -/
def strings_Cut.f (a0 : ByteArray) (a1 : ByteArray) : Option (ByteArray × ByteArray × Bool) := if a0.size < 4294967281 then some (⟨(Lib.cut a0.data.toList a1.data.toList).1.toArray⟩, ⟨(Lib.cut a0.data.toList a1.data.toList).2.1.toArray⟩, (Lib.cut a0.data.toList a1.data.toList).2.2) else none
theorem strings_Cut.calls {b_ : Bool} (a0 : ByteArray) (a1 : ByteArray) (r1 : ByteArray) (r2 : ByteArray) (r3 : Bool) (w : World) (hO_ : Ok_ b_ w) (h : strings_Cut.f a0 a1 = some (r1, r2, r3)) :
    Calls Tryd.prog 39 #[.string a0, .string a1] w fun e w' => e = .returned (.tuple #[.string r1, .string r2, .bool r3]) ∧ Below w.heap.size w w' := by
  unfold strings_Cut.f at h
  by_cases h2 : a0.size < 4294967281
  · rw [if_pos h2] at h
    simp only [Option.some.injEq, Prod.mk.injEq] at h
    obtain ⟨rfl, rfl, rfl⟩ := h
    exact cut_ a0 a1 h2 w hO_
  · rw [if_neg h2] at h; cases h

/-! ### strings_TrimPrefix: function 42 -/
def strings_TrimPrefix.f (a0 : ByteArray) (a1 : ByteArray) : Option ByteArray := some ⟨(Lib.trimPrefix a0.data.toList a1.data.toList).toArray⟩
theorem strings_TrimPrefix.calls {b_ : Bool} (a0 : ByteArray) (a1 : ByteArray) (r : ByteArray) (w : World) (hO_ : Ok_ b_ w) (h : strings_TrimPrefix.f a0 a1 = some r) :
    Calls Tryd.prog 42 #[.string a0, .string a1] w fun e w' => e = .returned (.string r) ∧ Below w.heap.size w w' := by
  obtain rfl := Option.some.inj h
  exact trimPrefix_ a0 a1 w

/-! ### strings_Trim: function 43 -/
def strings_Trim.f (a0 : ByteArray) (a1 : ByteArray) : Option ByteArray := if a0.size ≤ 4294967281 ∧ a1.size < 4294967281 ∧ (a1.data.toList.all fun b => decide (b.toNat < 128)) = true then some ⟨(Lib.trimS a0.data.toList a1.data.toList).toArray⟩ else none
theorem strings_Trim.calls {b_ : Bool} (a0 : ByteArray) (a1 : ByteArray) (r : ByteArray) (w : World) (hO_ : Ok_ b_ w) (h : strings_Trim.f a0 a1 = some r) :
    Calls Tryd.prog 43 #[.string a0, .string a1] w fun e w' => e = .returned (.string r) ∧ Below w.heap.size w w' := by
  unfold strings_Trim.f at h
  by_cases h2 : a0.size ≤ 4294967281 ∧ a1.size < 4294967281 ∧ (a1.data.toList.all fun b => decide (b.toNat < 128)) = true
  · rw [if_pos h2] at h
    obtain rfl := Option.some.inj h
    exact trim_ a0 a1 h2.1 h2.2.1 h2.2.2 w
  · rw [if_neg h2] at h; cases h

/-! ### impl_ReadAngle1: function 44 -/
def impl_ReadAngle1.f (a0 : ByteArray) : Option Int := if a0.size ≤ 18 ∧ a0.data.toList.all Go.TX.isD = true then some ((Go.TX.val 0 a0.data.toList : Nat) : Int) else none
theorem impl_ReadAngle1.calls {b_ : Bool} (a0 : ByteArray) (r : Int) (w : World) (hO_ : Ok_ b_ w) (h : impl_ReadAngle1.f a0 = some r) :
    Calls Tryd.prog 44 #[.string a0] w fun e w' => e = .returned (.int .i64 r) ∧ Below w.heap.size w w' := by
  unfold impl_ReadAngle1.f at h
  by_cases h2 : a0.size ≤ 18 ∧ a0.data.toList.all Go.TX.isD = true
  · rw [if_pos h2] at h
    obtain rfl := Option.some.inj h
    exact number_ a0 h2.2 h2.1 w
  · rw [if_neg h2] at h; cases h

end Go.Proofs.YtoncbpohjdackaaDoor.TX
