/- The machine walks these functions as the plain functions say; written by a program of this session out of the translation, with contracts of the library's functions of our own. -/
import Derived.Test.YtoncbpohjdackaaDoorX0
import Derived.Test.YtoncbpohjdackaaDoorX1
import Derived.Test.YtoncbpohjdackaaDoorX5
namespace Go.Proofs.YtoncbpohjdackaaDoor.TX
open Go.RowKit Go.Proofs.YtoncbpohjdackaaDoorW.PrintWords Go.Proofs.YtoncbpohjdackaaDoorW.PrintLast Go.Proofs.YtoncbpohjdackaaDoorW.PrintMore
attribute [local go_sem] max2_int min2_int max_two min_two max_three min_three max_four min_four   -- for this text's walks alone
set_option linter.unusedVariables false
set_option linter.unusedSimpArgs false

/-! ### impl_angleText: function 32 -/
def impl_angleText.j0 : Nat → Int → ByteArray → Option (ByteArray)
  | 0, _, _ => none
  | k + 1, x0, x3 => (impl_abs.f x0).bind fun t284 => ((impl_abs.f x0).bind fun t285 => ((impl_Decimal.f (wrap64 (Int.tdiv t284 10000000))).bind fun t286 => (if x3.size + t286.size ≤ 9223372036854775807 then (if (x3 ++ t286).size + 1 ≤ 9223372036854775807 then ((impl_padded.f (wrap64 (Int.tdiv (wrap64 ((Int.tmod t285 10000000) * 36)) 6000000)) 2).bind fun t287 => (if ((x3 ++ t286) ++ (⟨#[100]⟩ : ByteArray)).size + t287.size ≤ 9223372036854775807 then (if (((x3 ++ t286) ++ (⟨#[100]⟩ : ByteArray)) ++ t287).size + 1 ≤ 9223372036854775807 then ((impl_padded.f (wrap64 (Int.tdiv (Int.tmod (wrap64 ((Int.tmod t285 10000000) * 36)) 6000000) 100000)) 2).bind fun t288 => (if ((((x3 ++ t286) ++ (⟨#[100]⟩ : ByteArray)) ++ t287) ++ (⟨#[109]⟩ : ByteArray)).size + t288.size ≤ 9223372036854775807 then (if (((((x3 ++ t286) ++ (⟨#[100]⟩ : ByteArray)) ++ t287) ++ (⟨#[109]⟩ : ByteArray)) ++ t288).size + 1 ≤ 9223372036854775807 then ((impl_padded.f (Int.tmod (Int.tmod (wrap64 ((Int.tmod t285 10000000) * 36)) 6000000) 100000) 5).bind fun t289 => (if ((((((x3 ++ t286) ++ (⟨#[100]⟩ : ByteArray)) ++ t287) ++ (⟨#[109]⟩ : ByteArray)) ++ t288) ++ (⟨#[46]⟩ : ByteArray)).size + t289.size ≤ 9223372036854775807 then (if (((((((x3 ++ t286) ++ (⟨#[100]⟩ : ByteArray)) ++ t287) ++ (⟨#[109]⟩ : ByteArray)) ++ t288) ++ (⟨#[46]⟩ : ByteArray)) ++ t289).size + 1 ≤ 9223372036854775807 then (some ((((((((x3 ++ t286) ++ (⟨#[100]⟩ : ByteArray)) ++ t287) ++ (⟨#[109]⟩ : ByteArray)) ++ t288) ++ (⟨#[46]⟩ : ByteArray)) ++ t289) ++ (⟨#[115]⟩ : ByteArray))) else (none)) else (none))) else (none)) else (none))) else (none)) else (none))) else (none)) else (none))))
def impl_angleText.f (k : Nat) (a0 : Int) : Option (ByteArray) := if a0 < 0 then (impl_angleText.j0 k a0 (⟨#[45]⟩ : ByteArray)) else (impl_angleText.j0 k a0 (⟨#[]⟩ : ByteArray))
theorem impl_angleText.mono_l : ∀ k, (∀ y0 y1, LeO (impl_angleText.j0 k y0 y1) (impl_angleText.j0 (k + 1) y0 y1))
  | 0 => fun _ _ r h => by simp [impl_angleText.j0] at h
  | k + 1 => by
    have ih0 := impl_angleText.mono_l k
    · intro y0 y1
      unfold impl_angleText.j0
      repeat' first
      | (with_reducible exact ih0 _ _)
      | (with_reducible exact LeO.refl _)
      | (with_reducible exact LeO.none _)
      | (with_reducible refine LeO.ite ?_ ?_)
      | (with_reducible refine LeO.bind ?_ (fun _ => ?_))
      | exact ih0 _ _
      | exact LeO.none _
      | refine LeO.ite ?_ ?_
      | refine LeO.bind ?_ (fun _ => ?_)
theorem impl_angleText.mono : ∀ a0 k, LeO (impl_angleText.f k a0) (impl_angleText.f (k + 1) a0) := by
  intro a0 k
  have ih0 := impl_angleText.mono_l k
  unfold impl_angleText.f
  repeat' first
      | (with_reducible exact ih0 _ _)
      | (with_reducible exact LeO.refl _)
      | (with_reducible exact LeO.none _)
      | (with_reducible refine LeO.ite ?_ ?_)
      | (with_reducible refine LeO.bind ?_ (fun _ => ?_))
      | exact ih0 _ _
      | exact LeO.none _
      | refine LeO.ite ?_ ?_
      | refine LeO.bind ?_ (fun _ => ?_)
set_option maxHeartbeats 8000000 in
set_option maxRecDepth 100000 in
theorem impl_angleText.calls {b_ : Bool} (k : Nat) (a0 : Int) (r : ByteArray) (w : World) (hO_ : Ok_ b_ w) (h : impl_angleText.f k a0 = some r) :
    Calls Tryd.prog 32 #[.int .i64 a0] w fun e w' => e = .returned (.string r) ∧ Below w.heap.size w w' := by
  have HB := Aside0.mk (Below.refl w.heap.size w)
  have H : (if a0 < 0 then (impl_angleText.j0 k a0 (⟨#[45]⟩ : ByteArray)) else (impl_angleText.j0 k a0 (⟨#[]⟩ : ByteArray))) = some r := h
  clear h
  have HC2 := Aside0.mk H
  clear H
  go_enter Tryd.func32, Tryd.ntmps32
  go_upto_if 9 with (fail)
  go_cut [3] (fun v3 wc => ∃ (kq : Nat) (x3_1 : ByteArray), v3 = .string x3_1 ∧ Aside0 (impl_angleText.j0 kq a0 x3_1 = some r) ∧ Aside0 (kq ≤ k) ∧ Aside0 (Below w.heap.size w wc))
  case first =>
    have H := HC2.out
    clear HC2
    by_cases c3 : a0 < 0
    · rw [if_pos c3] at H
      have c3b0 : decide (a0 < 0) = true := decide_eq_true c3
      clear c3
      (first | rw [c3b0] | (simp only [i64_w, i32_w]; rw [c3b0]) | skip)
      have H' := Aside0.mk H
      clear H
      go_wp2
      go_meet
      case rel => exact ⟨_, ((⟨#[45]⟩ : ByteArray)), (by first | rfl | (simp; done) | (simp [*]; done)), H', ⟨by first | omega | exact Nat.le_refl _⟩, ⟨by repeat (first | (with_reducible first | exact HB.out | apply below_alloc | apply pw_below_drewN | apply below_drew1) | exact HB.out)⟩⟩
    · rw [if_neg c3] at H
      have c3b0 : decide (a0 < 0) = false := decide_eq_false c3
      clear c3
      (first | rw [c3b0] | (simp only [i64_w, i32_w]; rw [c3b0]) | skip)
      have H' := Aside0.mk H
      clear H
      go_wp2
      go_meet
      case rel => exact ⟨_, ((⟨#[]⟩ : ByteArray)), (by first | rfl | (simp; done) | (simp [*]; done)), H', ⟨by first | omega | exact Nat.le_refl _⟩, ⟨by repeat (first | (with_reducible first | exact HB.out | apply below_alloc | apply pw_below_drewN | apply below_drew1) | exact HB.out)⟩⟩
  case rest =>
    clear HC2
    try clear p2
    try clear c3
    try clear c3b0
    obtain ⟨kq, x3_1, rfl, HA, HJ1, HB⟩ := hcut
    cases kq with
    | zero => exact absurd HA.out (by simp [impl_angleText.j0])
    | succ kj1 =>
      have H := HA.out
      clear HA
      simp only [impl_angleText.j0] at H
      replace H := Option.bind_eq_some_iff.mp H
      obtain ⟨t284, A40, H⟩ := H
      replace H : ((impl_abs.f a0).bind fun t285 => ((impl_Decimal.f (wrap64 (Int.tdiv t284 10000000))).bind fun t286 => (if x3_1.size + t286.size ≤ 9223372036854775807 then (if (x3_1 ++ t286).size + 1 ≤ 9223372036854775807 then ((impl_padded.f (wrap64 (Int.tdiv (wrap64 ((Int.tmod t285 10000000) * 36)) 6000000)) 2).bind fun t287 => (if ((x3_1 ++ t286) ++ (⟨#[100]⟩ : ByteArray)).size + t287.size ≤ 9223372036854775807 then (if (((x3_1 ++ t286) ++ (⟨#[100]⟩ : ByteArray)) ++ t287).size + 1 ≤ 9223372036854775807 then ((impl_padded.f (wrap64 (Int.tdiv (Int.tmod (wrap64 ((Int.tmod t285 10000000) * 36)) 6000000) 100000)) 2).bind fun t288 => (if ((((x3_1 ++ t286) ++ (⟨#[100]⟩ : ByteArray)) ++ t287) ++ (⟨#[109]⟩ : ByteArray)).size + t288.size ≤ 9223372036854775807 then (if (((((x3_1 ++ t286) ++ (⟨#[100]⟩ : ByteArray)) ++ t287) ++ (⟨#[109]⟩ : ByteArray)) ++ t288).size + 1 ≤ 9223372036854775807 then ((impl_padded.f (Int.tmod (Int.tmod (wrap64 ((Int.tmod t285 10000000) * 36)) 6000000) 100000) 5).bind fun t289 => (if ((((((x3_1 ++ t286) ++ (⟨#[100]⟩ : ByteArray)) ++ t287) ++ (⟨#[109]⟩ : ByteArray)) ++ t288) ++ (⟨#[46]⟩ : ByteArray)).size + t289.size ≤ 9223372036854775807 then (if (((((((x3_1 ++ t286) ++ (⟨#[100]⟩ : ByteArray)) ++ t287) ++ (⟨#[109]⟩ : ByteArray)) ++ t288) ++ (⟨#[46]⟩ : ByteArray)) ++ t289).size + 1 ≤ 9223372036854775807 then (some ((((((((x3_1 ++ t286) ++ (⟨#[100]⟩ : ByteArray)) ++ t287) ++ (⟨#[109]⟩ : ByteArray)) ++ t288) ++ (⟨#[46]⟩ : ByteArray)) ++ t289) ++ (⟨#[115]⟩ : ByteArray))) else (none)) else (none))) else (none)) else (none))) else (none)) else (none))) else (none)) else (none)))) = some r := H
      have A4 := Aside0.mk A40
      clear A40
      replace H := Option.bind_eq_some_iff.mp H
      obtain ⟨t285, A50, H⟩ := H
      replace H : ((impl_Decimal.f (wrap64 (Int.tdiv t284 10000000))).bind fun t286 => (if x3_1.size + t286.size ≤ 9223372036854775807 then (if (x3_1 ++ t286).size + 1 ≤ 9223372036854775807 then ((impl_padded.f (wrap64 (Int.tdiv (wrap64 ((Int.tmod t285 10000000) * 36)) 6000000)) 2).bind fun t287 => (if ((x3_1 ++ t286) ++ (⟨#[100]⟩ : ByteArray)).size + t287.size ≤ 9223372036854775807 then (if (((x3_1 ++ t286) ++ (⟨#[100]⟩ : ByteArray)) ++ t287).size + 1 ≤ 9223372036854775807 then ((impl_padded.f (wrap64 (Int.tdiv (Int.tmod (wrap64 ((Int.tmod t285 10000000) * 36)) 6000000) 100000)) 2).bind fun t288 => (if ((((x3_1 ++ t286) ++ (⟨#[100]⟩ : ByteArray)) ++ t287) ++ (⟨#[109]⟩ : ByteArray)).size + t288.size ≤ 9223372036854775807 then (if (((((x3_1 ++ t286) ++ (⟨#[100]⟩ : ByteArray)) ++ t287) ++ (⟨#[109]⟩ : ByteArray)) ++ t288).size + 1 ≤ 9223372036854775807 then ((impl_padded.f (Int.tmod (Int.tmod (wrap64 ((Int.tmod t285 10000000) * 36)) 6000000) 100000) 5).bind fun t289 => (if ((((((x3_1 ++ t286) ++ (⟨#[100]⟩ : ByteArray)) ++ t287) ++ (⟨#[109]⟩ : ByteArray)) ++ t288) ++ (⟨#[46]⟩ : ByteArray)).size + t289.size ≤ 9223372036854775807 then (if (((((((x3_1 ++ t286) ++ (⟨#[100]⟩ : ByteArray)) ++ t287) ++ (⟨#[109]⟩ : ByteArray)) ++ t288) ++ (⟨#[46]⟩ : ByteArray)) ++ t289).size + 1 ≤ 9223372036854775807 then (some ((((((((x3_1 ++ t286) ++ (⟨#[100]⟩ : ByteArray)) ++ t287) ++ (⟨#[109]⟩ : ByteArray)) ++ t288) ++ (⟨#[46]⟩ : ByteArray)) ++ t289) ++ (⟨#[115]⟩ : ByteArray))) else (none)) else (none))) else (none)) else (none))) else (none)) else (none))) else (none)) else (none))) = some r := H
      have A5 := Aside0.mk A50
      clear A50
      replace H := Option.bind_eq_some_iff.mp H
      obtain ⟨t286, A60, H⟩ := H
      replace H : (if x3_1.size + t286.size ≤ 9223372036854775807 then (if (x3_1 ++ t286).size + 1 ≤ 9223372036854775807 then ((impl_padded.f (wrap64 (Int.tdiv (wrap64 ((Int.tmod t285 10000000) * 36)) 6000000)) 2).bind fun t287 => (if ((x3_1 ++ t286) ++ (⟨#[100]⟩ : ByteArray)).size + t287.size ≤ 9223372036854775807 then (if (((x3_1 ++ t286) ++ (⟨#[100]⟩ : ByteArray)) ++ t287).size + 1 ≤ 9223372036854775807 then ((impl_padded.f (wrap64 (Int.tdiv (Int.tmod (wrap64 ((Int.tmod t285 10000000) * 36)) 6000000) 100000)) 2).bind fun t288 => (if ((((x3_1 ++ t286) ++ (⟨#[100]⟩ : ByteArray)) ++ t287) ++ (⟨#[109]⟩ : ByteArray)).size + t288.size ≤ 9223372036854775807 then (if (((((x3_1 ++ t286) ++ (⟨#[100]⟩ : ByteArray)) ++ t287) ++ (⟨#[109]⟩ : ByteArray)) ++ t288).size + 1 ≤ 9223372036854775807 then ((impl_padded.f (Int.tmod (Int.tmod (wrap64 ((Int.tmod t285 10000000) * 36)) 6000000) 100000) 5).bind fun t289 => (if ((((((x3_1 ++ t286) ++ (⟨#[100]⟩ : ByteArray)) ++ t287) ++ (⟨#[109]⟩ : ByteArray)) ++ t288) ++ (⟨#[46]⟩ : ByteArray)).size + t289.size ≤ 9223372036854775807 then (if (((((((x3_1 ++ t286) ++ (⟨#[100]⟩ : ByteArray)) ++ t287) ++ (⟨#[109]⟩ : ByteArray)) ++ t288) ++ (⟨#[46]⟩ : ByteArray)) ++ t289).size + 1 ≤ 9223372036854775807 then (some ((((((((x3_1 ++ t286) ++ (⟨#[100]⟩ : ByteArray)) ++ t287) ++ (⟨#[109]⟩ : ByteArray)) ++ t288) ++ (⟨#[46]⟩ : ByteArray)) ++ t289) ++ (⟨#[115]⟩ : ByteArray))) else (none)) else (none))) else (none)) else (none))) else (none)) else (none))) else (none)) else (none)) = some r := H
      have A6 := Aside0.mk A60
      clear A60
      by_cases c7 : x3_1.size + t286.size ≤ 9223372036854775807
      · rw [if_pos c7] at H
        have c7b0 := eq_true c7
        have c7b1 : decide (x3_1.size + t286.size ≤ 9223372036854775807) = true := decide_eq_true c7
        try have c7b2 : (9223372036854775807 < x3_1.size + t286.size) = False := eq_false (Nat.not_lt.2 c7)
        by_cases c8 : (x3_1 ++ t286).size + 1 ≤ 9223372036854775807
        · rw [if_pos c8] at H
          have c8b0 := eq_true c8
          have c8b1 : decide ((x3_1 ++ t286).size + 1 ≤ 9223372036854775807) = true := decide_eq_true c8
          try have c8b2 : (9223372036854775807 < (x3_1 ++ t286).size + 1) = False := eq_false (Nat.not_lt.2 c8)
          have c8z := c8
          try simp only [ByteArray.size_append] at c8z
          try have c8b3 := eq_false (Nat.not_lt.2 c8z)
          try have c8b4 := eq_true c8z
          replace H := Option.bind_eq_some_iff.mp H
          obtain ⟨t287, A90, H⟩ := H
          replace H : (if ((x3_1 ++ t286) ++ (⟨#[100]⟩ : ByteArray)).size + t287.size ≤ 9223372036854775807 then (if (((x3_1 ++ t286) ++ (⟨#[100]⟩ : ByteArray)) ++ t287).size + 1 ≤ 9223372036854775807 then ((impl_padded.f (wrap64 (Int.tdiv (Int.tmod (wrap64 ((Int.tmod t285 10000000) * 36)) 6000000) 100000)) 2).bind fun t288 => (if ((((x3_1 ++ t286) ++ (⟨#[100]⟩ : ByteArray)) ++ t287) ++ (⟨#[109]⟩ : ByteArray)).size + t288.size ≤ 9223372036854775807 then (if (((((x3_1 ++ t286) ++ (⟨#[100]⟩ : ByteArray)) ++ t287) ++ (⟨#[109]⟩ : ByteArray)) ++ t288).size + 1 ≤ 9223372036854775807 then ((impl_padded.f (Int.tmod (Int.tmod (wrap64 ((Int.tmod t285 10000000) * 36)) 6000000) 100000) 5).bind fun t289 => (if ((((((x3_1 ++ t286) ++ (⟨#[100]⟩ : ByteArray)) ++ t287) ++ (⟨#[109]⟩ : ByteArray)) ++ t288) ++ (⟨#[46]⟩ : ByteArray)).size + t289.size ≤ 9223372036854775807 then (if (((((((x3_1 ++ t286) ++ (⟨#[100]⟩ : ByteArray)) ++ t287) ++ (⟨#[109]⟩ : ByteArray)) ++ t288) ++ (⟨#[46]⟩ : ByteArray)) ++ t289).size + 1 ≤ 9223372036854775807 then (some ((((((((x3_1 ++ t286) ++ (⟨#[100]⟩ : ByteArray)) ++ t287) ++ (⟨#[109]⟩ : ByteArray)) ++ t288) ++ (⟨#[46]⟩ : ByteArray)) ++ t289) ++ (⟨#[115]⟩ : ByteArray))) else (none)) else (none))) else (none)) else (none))) else (none)) else (none)) = some r := H
          have A9 := Aside0.mk A90
          clear A90
          by_cases c10 : ((x3_1 ++ t286) ++ (⟨#[100]⟩ : ByteArray)).size + t287.size ≤ 9223372036854775807
          · rw [if_pos c10] at H
            have c10b0 := eq_true c10
            have c10b1 : decide (((x3_1 ++ t286) ++ (⟨#[100]⟩ : ByteArray)).size + t287.size ≤ 9223372036854775807) = true := decide_eq_true c10
            try have c10b2 : (9223372036854775807 < ((x3_1 ++ t286) ++ (⟨#[100]⟩ : ByteArray)).size + t287.size) = False := eq_false (Nat.not_lt.2 c10)
            have c10z := c10
            try simp only [ByteArray.size_append, show (⟨#[100]⟩ : ByteArray).size = 1 from rfl] at c10z
            try have c10b3 := eq_false (Nat.not_lt.2 c10z)
            try have c10b4 := eq_true c10z
            by_cases c11 : (((x3_1 ++ t286) ++ (⟨#[100]⟩ : ByteArray)) ++ t287).size + 1 ≤ 9223372036854775807
            · rw [if_pos c11] at H
              have c11b0 := eq_true c11
              have c11b1 : decide ((((x3_1 ++ t286) ++ (⟨#[100]⟩ : ByteArray)) ++ t287).size + 1 ≤ 9223372036854775807) = true := decide_eq_true c11
              try have c11b2 : (9223372036854775807 < (((x3_1 ++ t286) ++ (⟨#[100]⟩ : ByteArray)) ++ t287).size + 1) = False := eq_false (Nat.not_lt.2 c11)
              have c11z := c11
              try simp only [ByteArray.size_append, show (⟨#[100]⟩ : ByteArray).size = 1 from rfl] at c11z
              try have c11b3 := eq_false (Nat.not_lt.2 c11z)
              try have c11b4 := eq_true c11z
              replace H := Option.bind_eq_some_iff.mp H
              obtain ⟨t288, A120, H⟩ := H
              replace H : (if ((((x3_1 ++ t286) ++ (⟨#[100]⟩ : ByteArray)) ++ t287) ++ (⟨#[109]⟩ : ByteArray)).size + t288.size ≤ 9223372036854775807 then (if (((((x3_1 ++ t286) ++ (⟨#[100]⟩ : ByteArray)) ++ t287) ++ (⟨#[109]⟩ : ByteArray)) ++ t288).size + 1 ≤ 9223372036854775807 then ((impl_padded.f (Int.tmod (Int.tmod (wrap64 ((Int.tmod t285 10000000) * 36)) 6000000) 100000) 5).bind fun t289 => (if ((((((x3_1 ++ t286) ++ (⟨#[100]⟩ : ByteArray)) ++ t287) ++ (⟨#[109]⟩ : ByteArray)) ++ t288) ++ (⟨#[46]⟩ : ByteArray)).size + t289.size ≤ 9223372036854775807 then (if (((((((x3_1 ++ t286) ++ (⟨#[100]⟩ : ByteArray)) ++ t287) ++ (⟨#[109]⟩ : ByteArray)) ++ t288) ++ (⟨#[46]⟩ : ByteArray)) ++ t289).size + 1 ≤ 9223372036854775807 then (some ((((((((x3_1 ++ t286) ++ (⟨#[100]⟩ : ByteArray)) ++ t287) ++ (⟨#[109]⟩ : ByteArray)) ++ t288) ++ (⟨#[46]⟩ : ByteArray)) ++ t289) ++ (⟨#[115]⟩ : ByteArray))) else (none)) else (none))) else (none)) else (none)) = some r := H
              have A12 := Aside0.mk A120
              clear A120
              by_cases c13 : ((((x3_1 ++ t286) ++ (⟨#[100]⟩ : ByteArray)) ++ t287) ++ (⟨#[109]⟩ : ByteArray)).size + t288.size ≤ 9223372036854775807
              · rw [if_pos c13] at H
                have c13b0 := eq_true c13
                have c13b1 : decide (((((x3_1 ++ t286) ++ (⟨#[100]⟩ : ByteArray)) ++ t287) ++ (⟨#[109]⟩ : ByteArray)).size + t288.size ≤ 9223372036854775807) = true := decide_eq_true c13
                try have c13b2 : (9223372036854775807 < ((((x3_1 ++ t286) ++ (⟨#[100]⟩ : ByteArray)) ++ t287) ++ (⟨#[109]⟩ : ByteArray)).size + t288.size) = False := eq_false (Nat.not_lt.2 c13)
                have c13z := c13
                try simp only [ByteArray.size_append, show (⟨#[100]⟩ : ByteArray).size = 1 from rfl, show (⟨#[109]⟩ : ByteArray).size = 1 from rfl] at c13z
                try have c13b3 := eq_false (Nat.not_lt.2 c13z)
                try have c13b4 := eq_true c13z
                by_cases c14 : (((((x3_1 ++ t286) ++ (⟨#[100]⟩ : ByteArray)) ++ t287) ++ (⟨#[109]⟩ : ByteArray)) ++ t288).size + 1 ≤ 9223372036854775807
                · rw [if_pos c14] at H
                  have c14b0 := eq_true c14
                  have c14b1 : decide ((((((x3_1 ++ t286) ++ (⟨#[100]⟩ : ByteArray)) ++ t287) ++ (⟨#[109]⟩ : ByteArray)) ++ t288).size + 1 ≤ 9223372036854775807) = true := decide_eq_true c14
                  try have c14b2 : (9223372036854775807 < (((((x3_1 ++ t286) ++ (⟨#[100]⟩ : ByteArray)) ++ t287) ++ (⟨#[109]⟩ : ByteArray)) ++ t288).size + 1) = False := eq_false (Nat.not_lt.2 c14)
                  have c14z := c14
                  try simp only [ByteArray.size_append, show (⟨#[100]⟩ : ByteArray).size = 1 from rfl, show (⟨#[109]⟩ : ByteArray).size = 1 from rfl] at c14z
                  try have c14b3 := eq_false (Nat.not_lt.2 c14z)
                  try have c14b4 := eq_true c14z
                  replace H := Option.bind_eq_some_iff.mp H
                  obtain ⟨t289, A150, H⟩ := H
                  replace H : (if ((((((x3_1 ++ t286) ++ (⟨#[100]⟩ : ByteArray)) ++ t287) ++ (⟨#[109]⟩ : ByteArray)) ++ t288) ++ (⟨#[46]⟩ : ByteArray)).size + t289.size ≤ 9223372036854775807 then (if (((((((x3_1 ++ t286) ++ (⟨#[100]⟩ : ByteArray)) ++ t287) ++ (⟨#[109]⟩ : ByteArray)) ++ t288) ++ (⟨#[46]⟩ : ByteArray)) ++ t289).size + 1 ≤ 9223372036854775807 then (some ((((((((x3_1 ++ t286) ++ (⟨#[100]⟩ : ByteArray)) ++ t287) ++ (⟨#[109]⟩ : ByteArray)) ++ t288) ++ (⟨#[46]⟩ : ByteArray)) ++ t289) ++ (⟨#[115]⟩ : ByteArray))) else (none)) else (none)) = some r := H
                  have A15 := Aside0.mk A150
                  clear A150
                  by_cases c16 : ((((((x3_1 ++ t286) ++ (⟨#[100]⟩ : ByteArray)) ++ t287) ++ (⟨#[109]⟩ : ByteArray)) ++ t288) ++ (⟨#[46]⟩ : ByteArray)).size + t289.size ≤ 9223372036854775807
                  · rw [if_pos c16] at H
                    have c16b0 := eq_true c16
                    have c16b1 : decide (((((((x3_1 ++ t286) ++ (⟨#[100]⟩ : ByteArray)) ++ t287) ++ (⟨#[109]⟩ : ByteArray)) ++ t288) ++ (⟨#[46]⟩ : ByteArray)).size + t289.size ≤ 9223372036854775807) = true := decide_eq_true c16
                    try have c16b2 : (9223372036854775807 < ((((((x3_1 ++ t286) ++ (⟨#[100]⟩ : ByteArray)) ++ t287) ++ (⟨#[109]⟩ : ByteArray)) ++ t288) ++ (⟨#[46]⟩ : ByteArray)).size + t289.size) = False := eq_false (Nat.not_lt.2 c16)
                    have c16z := c16
                    try simp only [ByteArray.size_append, show (⟨#[100]⟩ : ByteArray).size = 1 from rfl, show (⟨#[109]⟩ : ByteArray).size = 1 from rfl, show (⟨#[46]⟩ : ByteArray).size = 1 from rfl] at c16z
                    try have c16b3 := eq_false (Nat.not_lt.2 c16z)
                    try have c16b4 := eq_true c16z
                    by_cases c17 : (((((((x3_1 ++ t286) ++ (⟨#[100]⟩ : ByteArray)) ++ t287) ++ (⟨#[109]⟩ : ByteArray)) ++ t288) ++ (⟨#[46]⟩ : ByteArray)) ++ t289).size + 1 ≤ 9223372036854775807
                    · rw [if_pos c17] at H
                      have c17b0 := eq_true c17
                      have c17b1 : decide ((((((((x3_1 ++ t286) ++ (⟨#[100]⟩ : ByteArray)) ++ t287) ++ (⟨#[109]⟩ : ByteArray)) ++ t288) ++ (⟨#[46]⟩ : ByteArray)) ++ t289).size + 1 ≤ 9223372036854775807) = true := decide_eq_true c17
                      try have c17b2 : (9223372036854775807 < (((((((x3_1 ++ t286) ++ (⟨#[100]⟩ : ByteArray)) ++ t287) ++ (⟨#[109]⟩ : ByteArray)) ++ t288) ++ (⟨#[46]⟩ : ByteArray)) ++ t289).size + 1) = False := eq_false (Nat.not_lt.2 c17)
                      have c17z := c17
                      try simp only [ByteArray.size_append, show (⟨#[100]⟩ : ByteArray).size = 1 from rfl, show (⟨#[109]⟩ : ByteArray).size = 1 from rfl, show (⟨#[46]⟩ : ByteArray).size = 1 from rfl] at c17z
                      try have c17b3 := eq_false (Nat.not_lt.2 c17z)
                      try have c17b4 := eq_true c17z
                      obtain rfl := Option.some.inj H
                      go_wp2_with (first | ((with_reducible refine gate_callee (f := 50) rfl ?_); refine goesL_ (some 11) rfl rfl Tryd.func50 (by kernel_rfl) rfl #[.int .i64 a0] rfl (by (try simp only [List.map_toArray, List.map_cons, List.map_nil]); first | done | rfl | (simp only [List.length_drop, List.length_take]; rfl)) ?_; (with_reducible refine (impl_abs.calls a0 t284 _ A4.out).mono ?_); rintro e w18 ⟨rfl, hb⟩; refine ⟨_, rfl, ?_⟩; have n0_ := Aside0.mk (below_step (by repeat (first | (with_reducible first | exact HB.out | apply below_alloc | apply pw_below_drewN | apply below_drew1) | exact HB.out)) hb); clear HB; have HB := n0_; clear n0_; (try clear hb); (try clear hb2); (try clear hk); (try clear hi)) | ((with_reducible refine gate_callee (f := 50) rfl ?_); refine goesL_ (some 14) rfl rfl Tryd.func50 (by kernel_rfl) rfl #[.int .i64 a0] rfl (by (try simp only [List.map_toArray, List.map_cons, List.map_nil]); first | done | rfl | (simp only [List.length_drop, List.length_take]; rfl)) ?_; (with_reducible refine (impl_abs.calls a0 t285 _ A5.out).mono ?_); rintro e w19 ⟨rfl, hb⟩; refine ⟨_, rfl, ?_⟩; have n0_ := Aside0.mk (below_step (by repeat (first | (with_reducible first | exact HB.out | apply below_alloc | apply pw_below_drewN | apply below_drew1) | exact HB.out)) hb); clear HB; have HB := n0_; clear n0_; (try clear hb); (try clear hb2); (try clear hk); (try clear hi)) | ((with_reducible refine gate_callee (f := 48) rfl ?_); refine goesL_ (some 23) rfl rfl Tryd.func48 (by kernel_rfl) rfl #[.int .i64 (wrap64 (Int.tdiv t284 10000000))] rfl (by (try simp only [List.map_toArray, List.map_cons, List.map_nil]); first | done | rfl | (simp only [List.length_drop, List.length_take]; rfl)) ?_; (with_reducible refine (impl_Decimal.calls (wrap64 (Int.tdiv t284 10000000)) t286 _ (okd_ hO_ (by repeat (first | (with_reducible first | exact HB.out | apply below_alloc | apply pw_below_drewN | apply below_drew1) | exact HB.out))) A6.out).mono ?_); rintro e w20 ⟨rfl, hb⟩; refine ⟨_, rfl, ?_⟩; have n0_ := Aside0.mk (below_step (by repeat (first | (with_reducible first | exact HB.out | apply below_alloc | apply pw_below_drewN | apply below_drew1) | exact HB.out)) hb); clear HB; have HB := n0_; clear n0_; (try clear hb); (try clear hb2); (try clear hk); (try clear hi)) | ((with_reducible refine gate_callee (f := 51) rfl ?_); refine goesL_ (some 27) rfl rfl Tryd.func51 (by kernel_rfl) rfl #[.int .i64 (wrap64 (Int.tdiv (wrap64 ((Int.tmod t285 10000000) * 36)) 6000000)), .int .i64 2] rfl (by (try simp only [List.map_toArray, List.map_cons, List.map_nil]); first | done | rfl | (simp only [List.length_drop, List.length_take]; rfl)) ?_; (with_reducible refine (impl_padded.calls (wrap64 (Int.tdiv (wrap64 ((Int.tmod t285 10000000) * 36)) 6000000)) 2 t287 _ (okd_ hO_ (by repeat (first | (with_reducible first | exact HB.out | apply below_alloc | apply pw_below_drewN | apply below_drew1) | exact HB.out))) A9.out).mono ?_); rintro e w21 ⟨rfl, hb⟩; refine ⟨_, rfl, ?_⟩; have n0_ := Aside0.mk (below_step (by repeat (first | (with_reducible first | exact HB.out | apply below_alloc | apply pw_below_drewN | apply below_drew1) | exact HB.out)) hb); clear HB; have HB := n0_; clear n0_; (try clear hb); (try clear hb2); (try clear hk); (try clear hi)) | ((with_reducible refine gate_callee (f := 51) rfl ?_); refine goesL_ (some 32) rfl rfl Tryd.func51 (by kernel_rfl) rfl #[.int .i64 (wrap64 (Int.tdiv (Int.tmod (wrap64 ((Int.tmod t285 10000000) * 36)) 6000000) 100000)), .int .i64 2] rfl (by (try simp only [List.map_toArray, List.map_cons, List.map_nil]); first | done | rfl | (simp only [List.length_drop, List.length_take]; rfl)) ?_; (with_reducible refine (impl_padded.calls (wrap64 (Int.tdiv (Int.tmod (wrap64 ((Int.tmod t285 10000000) * 36)) 6000000) 100000)) 2 t288 _ (okd_ hO_ (by repeat (first | (with_reducible first | exact HB.out | apply below_alloc | apply pw_below_drewN | apply below_drew1) | exact HB.out))) A12.out).mono ?_); rintro e w22 ⟨rfl, hb⟩; refine ⟨_, rfl, ?_⟩; have n0_ := Aside0.mk (below_step (by repeat (first | (with_reducible first | exact HB.out | apply below_alloc | apply pw_below_drewN | apply below_drew1) | exact HB.out)) hb); clear HB; have HB := n0_; clear n0_; (try clear hb); (try clear hb2); (try clear hk); (try clear hi)) | ((with_reducible refine gate_callee (f := 51) rfl ?_); refine goesL_ (some 37) rfl rfl Tryd.func51 (by kernel_rfl) rfl #[.int .i64 (Int.tmod (wrap64 ((Int.tmod t285 10000000) * 36)) 100000), .int .i64 5] rfl (by (try simp only [List.map_toArray, List.map_cons, List.map_nil]); first | done | rfl | (simp only [List.length_drop, List.length_take]; rfl)) ?_; (with_reducible refine (impl_padded.calls (Int.tmod (wrap64 ((Int.tmod t285 10000000) * 36)) 100000) 5 t289 _ (okd_ hO_ (by repeat (first | (with_reducible first | exact HB.out | apply below_alloc | apply pw_below_drewN | apply below_drew1) | exact HB.out))) (by have z := A15.out; rw [tt_] at z; exact z)).mono ?_); rintro e w23 ⟨rfl, hb⟩; refine ⟨_, rfl, ?_⟩; have n0_ := Aside0.mk (below_step (by repeat (first | (with_reducible first | exact HB.out | apply below_alloc | apply pw_below_drewN | apply below_drew1) | exact HB.out)) hb); clear HB; have HB := n0_; clear n0_; (try clear hb); (try clear hb2); (try clear hk); (try clear hi)))
                      go_ret
                      exact ⟨by first | rfl | (simp [errW_none, errW_some] <;> rfl) | (simp [*, errW_none, errW_some] <;> rfl), by repeat (first | (with_reducible first | exact HB.out | apply below_alloc | apply pw_below_drewN | apply below_drew1) | exact HB.out)⟩
                    · rw [if_neg c17] at H
                      exact absurd H (by simp)
                  · rw [if_neg c16] at H
                    exact absurd H (by simp)
                · rw [if_neg c14] at H
                  exact absurd H (by simp)
              · rw [if_neg c13] at H
                exact absurd H (by simp)
            · rw [if_neg c11] at H
              exact absurd H (by simp)
          · rw [if_neg c10] at H
            exact absurd H (by simp)
        · rw [if_neg c8] at H
          exact absurd H (by simp)
      · rw [if_neg c7] at H
        exact absurd H (by simp)

/-! ### impl_AngleText: function 13 -/
def impl_AngleText.f (k : Nat) (a0 : Int) : Option (ByteArray × Int) := (impl_within.f a0 (-1800000000) 1800000000).bind fun t290 => (if t290 = true then ((impl_angleText.f k a0).bind fun t291 => (some (t291, 0))) else (some ((⟨#[]⟩ : ByteArray), 2)))
theorem impl_AngleText.mono : ∀ a0 k, LeO (impl_AngleText.f k a0) (impl_AngleText.f (k + 1) a0) := by
  intro a0 k
  unfold impl_AngleText.f
  repeat' first
      | (with_reducible exact impl_angleText.mono _ _)
      | (with_reducible exact LeO.refl _)
      | (with_reducible exact LeO.none _)
      | (with_reducible refine LeO.ite ?_ ?_)
      | (with_reducible refine LeO.bind ?_ (fun _ => ?_))
      | exact impl_angleText.mono _ _
      | exact LeO.none _
      | refine LeO.ite ?_ ?_
      | refine LeO.bind ?_ (fun _ => ?_)
set_option maxHeartbeats 8000000 in
set_option maxRecDepth 100000 in
theorem impl_AngleText.calls {b_ : Bool} (k : Nat) (a0 : Int) (r1 : ByteArray) (r2 : Int) (w : World) (hO_ : Ok_ b_ w) (h : impl_AngleText.f k a0 = some (r1, r2)) :
    Calls Tryd.prog 13 #[.int .i64 a0] w fun e w' => e = .returned (.tuple #[.string r1, .int .i64 r2]) ∧ Below w.heap.size w w' := by
  have HB := Aside0.mk (Below.refl w.heap.size w)
  have H : ((impl_within.f a0 (-1800000000) 1800000000).bind fun t290 => (if t290 = true then ((impl_angleText.f k a0).bind fun t291 => (some (t291, 0))) else (some ((⟨#[]⟩ : ByteArray), 2)))) = some (r1, r2) := h
  clear h
  replace H := Option.bind_eq_some_iff.mp H
  obtain ⟨t290, A20, H⟩ := H
  replace H : (if t290 = true then ((impl_angleText.f k a0).bind fun t291 => (some (t291, 0))) else (some ((⟨#[]⟩ : ByteArray), 2))) = some (r1, r2) := H
  have A2 := Aside0.mk A20
  clear A20
  by_cases c3 : t290 = true
  · subst c3
    have H1 : ((impl_angleText.f k a0).bind fun t291 => (some (t291, 0))) = some (r1, r2) := by rw [if_pos rfl] at H; exact H
    clear H
    have H := H1
    clear H1
    replace H := Option.bind_eq_some_iff.mp H
    obtain ⟨t291, A40, H⟩ := H
    replace H : (some (t291, 0)) = some (r1, r2) := H
    have A4 := Aside0.mk A40
    clear A40
    simp only [Option.some.injEq, Prod.mk.injEq] at H
    obtain ⟨rfl, rfl⟩ := H
    go_enter Tryd.func13, Tryd.ntmps13
    go_wp2_with (first | ((with_reducible refine gate_callee (f := 31) rfl ?_); refine goesL_ (some 5) rfl rfl Tryd.func31 (by kernel_rfl) rfl #[.int .i64 a0, .int .i64 (-1800000000), .int .i64 1800000000] rfl (by (try simp only [List.map_toArray, List.map_cons, List.map_nil]); first | done | rfl | (simp only [List.length_drop, List.length_take]; rfl)) ?_; (with_reducible refine (impl_within.calls a0 (-1800000000) 1800000000 true _ A2.out).mono ?_); rintro e w' ⟨rfl, ⟨nd, rfl⟩⟩; refine ⟨_, rfl, ?_⟩) | ((with_reducible refine gate_callee (f := 32) rfl ?_); refine goesL_ (some 8) rfl rfl Tryd.func32 (by kernel_rfl) rfl #[.int .i64 a0] rfl (by (try simp only [List.map_toArray, List.map_cons, List.map_nil]); first | done | rfl | (simp only [List.length_drop, List.length_take]; rfl)) ?_; (with_reducible refine (impl_angleText.calls k a0 t291 _ (okd_ hO_ (by repeat (first | (with_reducible first | exact HB.out | apply below_alloc | apply pw_below_drewN | apply below_drew1) | exact HB.out))) A4.out).mono ?_); rintro e w5 ⟨rfl, hb⟩; refine ⟨_, rfl, ?_⟩; have n0_ := Aside0.mk (below_step (by repeat (first | (with_reducible first | exact HB.out | apply below_alloc | apply pw_below_drewN | apply below_drew1) | exact HB.out)) hb); clear HB; have HB := n0_; clear n0_; (try clear hb); (try clear hb2); (try clear hk); (try clear hi)))
    go_ret2
    exact ⟨by first | rfl | (simp [errW_none, errW_some] <;> rfl) | (simp [*, errW_none, errW_some] <;> rfl), by repeat (first | (with_reducible first | exact HB.out | apply below_alloc | apply pw_below_drewN | apply below_drew1) | exact HB.out)⟩
  · replace c3 := Bool.eq_false_iff.mpr c3
    subst c3
    have H1 : (some ((⟨#[]⟩ : ByteArray), 2)) = some (r1, r2) := by rw [if_neg (show ¬ (false = true) by decide)] at H; exact H
    clear H
    have H := H1
    clear H1
    simp only [Option.some.injEq, Prod.mk.injEq] at H
    obtain ⟨rfl, rfl⟩ := H
    go_enter Tryd.func13, Tryd.ntmps13
    go_wp2_with (first | ((with_reducible refine gate_callee (f := 31) rfl ?_); refine goesL_ (some 5) rfl rfl Tryd.func31 (by kernel_rfl) rfl #[.int .i64 a0, .int .i64 (-1800000000), .int .i64 1800000000] rfl (by (try simp only [List.map_toArray, List.map_cons, List.map_nil]); first | done | rfl | (simp only [List.length_drop, List.length_take]; rfl)) ?_; (with_reducible refine (impl_within.calls a0 (-1800000000) 1800000000 false _ A2.out).mono ?_); rintro e w' ⟨rfl, ⟨nd, rfl⟩⟩; refine ⟨_, rfl, ?_⟩))
    go_ret2
    exact ⟨by first | rfl | (simp [errW_none, errW_some] <;> rfl) | (simp [*, errW_none, errW_some] <;> rfl), by repeat (first | (with_reducible first | exact HB.out | apply below_alloc | apply pw_below_drewN | apply below_drew1) | exact HB.out)⟩

/-! ### laws_FnExactAngleText: function 4 -/
def laws_FnExactAngleText.f (k : Nat) (a0 : Int) : Option (Bool) := (spec_AngleText.f k a0).bind fun bt292 => ((impl_AngleText.f k a0).bind fun bt294 => (if bt294.1.toList = bt292.1.toList then (if bt294.2 = bt292.2 then (some true) else (some false)) else (some false)))
theorem laws_FnExactAngleText.mono : ∀ a0 k, LeO (laws_FnExactAngleText.f k a0) (laws_FnExactAngleText.f (k + 1) a0) := by
  intro a0 k
  unfold laws_FnExactAngleText.f
  repeat' first
      | (with_reducible exact impl_AngleText.mono _ _)
      | (with_reducible exact spec_AngleText.mono _ _)
      | (with_reducible exact LeO.refl _)
      | (with_reducible exact LeO.none _)
      | (with_reducible refine LeO.ite ?_ ?_)
      | (with_reducible refine LeO.bind ?_ (fun _ => ?_))
      | exact impl_AngleText.mono _ _
      | exact spec_AngleText.mono _ _
      | exact LeO.none _
      | refine LeO.ite ?_ ?_
      | refine LeO.bind ?_ (fun _ => ?_)
set_option maxHeartbeats 8000000 in
set_option maxRecDepth 100000 in
theorem laws_FnExactAngleText.calls {b_ : Bool} (k : Nat) (a0 : Int) (r : Bool) (w : World) (hO_ : Ok_ b_ w) (h : laws_FnExactAngleText.f k a0 = some r) :
    Calls Tryd.prog 4 #[.int .i64 a0] w fun e w' => e = .returned (.bool r) ∧ Below w.heap.size w w' := by
  have HB := Aside0.mk (Below.refl w.heap.size w)
  have H : ((spec_AngleText.f k a0).bind fun bt292 => ((impl_AngleText.f k a0).bind fun bt294 => (if bt294.1.toList = bt292.1.toList then (if bt294.2 = bt292.2 then (some true) else (some false)) else (some false)))) = some r := h
  clear h
  replace H := Option.bind_eq_some_iff.mp H
  obtain ⟨⟨t292, t293⟩, A20, H⟩ := H
  replace H : ((impl_AngleText.f k a0).bind fun bt294 => (if bt294.1.toList = t292.toList then (if bt294.2 = t293 then (some true) else (some false)) else (some false))) = some r := H
  have A2 := Aside0.mk A20
  clear A20
  replace H := Option.bind_eq_some_iff.mp H
  obtain ⟨⟨t294, t295⟩, A30, H⟩ := H
  replace H : (if t294.toList = t292.toList then (if t295 = t293 then (some true) else (some false)) else (some false)) = some r := H
  have A3 := Aside0.mk A30
  clear A30
  by_cases c4 : t294.toList = t292.toList
  · rw [if_pos c4] at H
    have c4b0 : (t294.toList == t292.toList) = true := beq_iff_eq.mpr c4
    have c4b1 : (t294.toList != t292.toList) = false := bne_eq_false_iff_eq.mpr c4
    clear c4
    by_cases c5 : t295 = t293
    · rw [if_pos c5] at H
      have c5b0 : (t295 == t293) = true := beq_iff_eq.mpr c5
      have c5b1 : (t295 != t293) = false := bne_eq_false_iff_eq.mpr c5
      clear c5
      obtain rfl := Option.some.inj H
      go_enter Tryd.func4, Tryd.ntmps4
      go_wp2_with (first | ((with_reducible refine gate_callee (f := 12) rfl ?_); refine goesL_ (some 9) rfl rfl Tryd.func12 (by kernel_rfl) rfl #[.int .i64 a0] rfl (by (try simp only [List.map_toArray, List.map_cons, List.map_nil]); first | done | rfl | (simp only [List.length_drop, List.length_take]; rfl)) ?_; (with_reducible refine (spec_AngleText.calls k a0 t292 t293 _ A2.out).mono ?_); rintro e w6 ⟨rfl, hb⟩; refine ⟨_, rfl, ?_⟩; have n0_ := Aside0.mk (below_step (by repeat (first | (with_reducible first | exact HB.out | apply below_alloc | apply pw_below_drewN | apply below_drew1) | exact HB.out)) hb); clear HB; have HB := n0_; clear n0_; (try clear hb); (try clear hb2); (try clear hk); (try clear hi)) | ((with_reducible refine gate_callee (f := 13) rfl ?_); refine goesL_ (some 14) rfl rfl Tryd.func13 (by kernel_rfl) rfl #[.int .i64 a0] rfl (by (try simp only [List.map_toArray, List.map_cons, List.map_nil]); first | done | rfl | (simp only [List.length_drop, List.length_take]; rfl)) ?_; (with_reducible refine (impl_AngleText.calls k a0 t294 t295 _ (okd_ hO_ (by repeat (first | (with_reducible first | exact HB.out | apply below_alloc | apply pw_below_drewN | apply below_drew1) | exact HB.out))) A3.out).mono ?_); rintro e w7 ⟨rfl, hb⟩; refine ⟨_, rfl, ?_⟩; have n0_ := Aside0.mk (below_step (by repeat (first | (with_reducible first | exact HB.out | apply below_alloc | apply pw_below_drewN | apply below_drew1) | exact HB.out)) hb); clear HB; have HB := n0_; clear n0_; (try clear hb); (try clear hb2); (try clear hk); (try clear hi)))
      go_ret
      exact ⟨by first | rfl | (simp [errW_none, errW_some] <;> rfl) | (simp [*, errW_none, errW_some] <;> rfl), by repeat (first | (with_reducible first | exact HB.out | apply below_alloc | apply pw_below_drewN | apply below_drew1) | exact HB.out)⟩
    · rw [if_neg c5] at H
      have c5b0 : (t295 == t293) = false := beq_eq_false_iff_ne.mpr c5
      have c5b1 : (t295 != t293) = true := bne_iff_ne.mpr c5
      obtain rfl := Option.some.inj H
      go_enter Tryd.func4, Tryd.ntmps4
      go_wp2_with (first | ((with_reducible refine gate_callee (f := 12) rfl ?_); refine goesL_ (some 9) rfl rfl Tryd.func12 (by kernel_rfl) rfl #[.int .i64 a0] rfl (by (try simp only [List.map_toArray, List.map_cons, List.map_nil]); first | done | rfl | (simp only [List.length_drop, List.length_take]; rfl)) ?_; (with_reducible refine (spec_AngleText.calls k a0 t292 t293 _ A2.out).mono ?_); rintro e w8 ⟨rfl, hb⟩; refine ⟨_, rfl, ?_⟩; have n0_ := Aside0.mk (below_step (by repeat (first | (with_reducible first | exact HB.out | apply below_alloc | apply pw_below_drewN | apply below_drew1) | exact HB.out)) hb); clear HB; have HB := n0_; clear n0_; (try clear hb); (try clear hb2); (try clear hk); (try clear hi)) | ((with_reducible refine gate_callee (f := 13) rfl ?_); refine goesL_ (some 14) rfl rfl Tryd.func13 (by kernel_rfl) rfl #[.int .i64 a0] rfl (by (try simp only [List.map_toArray, List.map_cons, List.map_nil]); first | done | rfl | (simp only [List.length_drop, List.length_take]; rfl)) ?_; (with_reducible refine (impl_AngleText.calls k a0 t294 t295 _ (okd_ hO_ (by repeat (first | (with_reducible first | exact HB.out | apply below_alloc | apply pw_below_drewN | apply below_drew1) | exact HB.out))) A3.out).mono ?_); rintro e w9 ⟨rfl, hb⟩; refine ⟨_, rfl, ?_⟩; have n0_ := Aside0.mk (below_step (by repeat (first | (with_reducible first | exact HB.out | apply below_alloc | apply pw_below_drewN | apply below_drew1) | exact HB.out)) hb); clear HB; have HB := n0_; clear n0_; (try clear hb); (try clear hb2); (try clear hk); (try clear hi)))
      go_ret
      exact ⟨by first | rfl | (simp [errW_none, errW_some] <;> rfl) | (simp [*, errW_none, errW_some] <;> rfl), by repeat (first | (with_reducible first | exact HB.out | apply below_alloc | apply pw_below_drewN | apply below_drew1) | exact HB.out)⟩
  · rw [if_neg c4] at H
    have c4b0 : (t294.toList == t292.toList) = false := beq_eq_false_iff_ne.mpr c4
    have c4b1 : (t294.toList != t292.toList) = true := bne_iff_ne.mpr c4
    obtain rfl := Option.some.inj H
    go_enter Tryd.func4, Tryd.ntmps4
    go_wp2_with (first | ((with_reducible refine gate_callee (f := 12) rfl ?_); refine goesL_ (some 9) rfl rfl Tryd.func12 (by kernel_rfl) rfl #[.int .i64 a0] rfl (by (try simp only [List.map_toArray, List.map_cons, List.map_nil]); first | done | rfl | (simp only [List.length_drop, List.length_take]; rfl)) ?_; (with_reducible refine (spec_AngleText.calls k a0 t292 t293 _ A2.out).mono ?_); rintro e w10 ⟨rfl, hb⟩; refine ⟨_, rfl, ?_⟩; have n0_ := Aside0.mk (below_step (by repeat (first | (with_reducible first | exact HB.out | apply below_alloc | apply pw_below_drewN | apply below_drew1) | exact HB.out)) hb); clear HB; have HB := n0_; clear n0_; (try clear hb); (try clear hb2); (try clear hk); (try clear hi)) | ((with_reducible refine gate_callee (f := 13) rfl ?_); refine goesL_ (some 14) rfl rfl Tryd.func13 (by kernel_rfl) rfl #[.int .i64 a0] rfl (by (try simp only [List.map_toArray, List.map_cons, List.map_nil]); first | done | rfl | (simp only [List.length_drop, List.length_take]; rfl)) ?_; (with_reducible refine (impl_AngleText.calls k a0 t294 t295 _ (okd_ hO_ (by repeat (first | (with_reducible first | exact HB.out | apply below_alloc | apply pw_below_drewN | apply below_drew1) | exact HB.out))) A3.out).mono ?_); rintro e w11 ⟨rfl, hb⟩; refine ⟨_, rfl, ?_⟩; have n0_ := Aside0.mk (below_step (by repeat (first | (with_reducible first | exact HB.out | apply below_alloc | apply pw_below_drewN | apply below_drew1) | exact HB.out)) hb); clear HB; have HB := n0_; clear n0_; (try clear hb); (try clear hb2); (try clear hk); (try clear hi)))
    go_ret
    exact ⟨by first | rfl | (simp [errW_none, errW_some] <;> rfl) | (simp [*, errW_none, errW_some] <;> rfl), by repeat (first | (with_reducible first | exact HB.out | apply below_alloc | apply pw_below_drewN | apply below_drew1) | exact HB.out)⟩

/-! ### spec_l11Number: function 41 -/
def spec_l11Number.l0 : Nat → ByteArray → Int → Int → Option (Int × Bool)
  | 0, _, _, _ => none
  | k + 1, x0, x4, x5 => if x5 < (x0.size : Int) then (if 0 ≤ x5 then (if (bt x0 x5) < 48 then (some (0, false)) else (if (bt x0 x5) > 57 then (some (0, false)) else (if x5 ≥ 9 then (some (0, false)) else (spec_l11Number.l0 k x0 (wrap64 ((wrap64 (10 * x4)) + (((bt x0 x5) - 48) % 256))) (wrap64 (x5 + 1)))))) else (none)) else (some (x4, (x0.toList != ([] : List UInt8))))
def spec_l11Number.f (k : Nat) (a0 : ByteArray) : Option (Int × Bool) := spec_l11Number.l0 k a0 0 0
theorem spec_l11Number.mono_l : ∀ k, (∀ y0 y1 y2, LeO (spec_l11Number.l0 k y0 y1 y2) (spec_l11Number.l0 (k + 1) y0 y1 y2))
  | 0 => fun _ _ _ r h => by simp [spec_l11Number.l0] at h
  | k + 1 => by
    have ih0 := spec_l11Number.mono_l k
    · intro y0 y1 y2
      unfold spec_l11Number.l0
      repeat' first
      | (with_reducible exact ih0 _ _ _)
      | (with_reducible exact LeO.refl _)
      | (with_reducible exact LeO.none _)
      | (with_reducible refine LeO.ite ?_ ?_)
      | (with_reducible refine LeO.bind ?_ (fun _ => ?_))
      | exact ih0 _ _ _
      | exact LeO.none _
      | refine LeO.ite ?_ ?_
      | refine LeO.bind ?_ (fun _ => ?_)
theorem spec_l11Number.mono : ∀ a0 k, LeO (spec_l11Number.f k a0) (spec_l11Number.f (k + 1) a0) := by
  intro a0 k
  have ih0 := spec_l11Number.mono_l k
  unfold spec_l11Number.f
  repeat' first
      | (with_reducible exact ih0 _ _ _)
      | (with_reducible exact LeO.refl _)
      | (with_reducible exact LeO.none _)
      | (with_reducible refine LeO.ite ?_ ?_)
      | (with_reducible refine LeO.bind ?_ (fun _ => ?_))
      | exact ih0 _ _ _
      | exact LeO.none _
      | refine LeO.ite ?_ ?_
      | refine LeO.bind ?_ (fun _ => ?_)
set_option maxHeartbeats 8000000 in
set_option maxRecDepth 100000 in
theorem spec_l11Number.calls (k : Nat) (a0 : ByteArray) (r1 : Int) (r2 : Bool) (w : World) (h : spec_l11Number.f k a0 = some (r1, r2)) :
    Calls Tryd.prog 41 #[.string a0] w fun e w' => e = .returned (.tuple #[.int .i64 r1, .bool r2]) ∧ Drawn0 w w' := by
  have H : (spec_l11Number.l0 k a0 0 0) = some (r1, r2) := h
  clear h
  have H' := Aside0.mk H
  clear H
  go_enter Tryd.func41, Tryd.ntmps41
  go_wp2
  go_loopg [4, 5] k (fun kq v4 v5 w' => ∃ (x4_1 : Int) (x5_1 : Int), v4 = .int .i64 x4_1 ∧ v5 = .int .i64 x5_1 ∧ Aside0 (spec_l11Number.l0 kq a0 x4_1 x5_1 = some (r1, r2)) ∧ Aside0 (kq ≤ k) ∧ Drawn0 w w')
  case atStart => exact ⟨(0), (0), (by first | rfl | (simp; done) | (simp [*]; done)), (by first | rfl | (simp; done) | (simp [*]; done)), H', ⟨Nat.le_refl _⟩, by repeat (first | exact Drawn0.refl _ | apply Drawn0.step)⟩
  case round =>
    clear H'
    obtain ⟨x4_1, x5_1, rfl, rfl, HA, HK1, ⟨m1, rfl⟩⟩ := hrel
    cases gk with
    | zero => exact absurd HA.out (by simp [spec_l11Number.l0])
    | succ k1 =>
      have H := HA.out
      clear HA
      simp only [spec_l11Number.l0] at H
      by_cases c2 : x5_1 < (a0.size : Int)
      · rw [if_pos c2] at H
        have c2b0 : decide (x5_1 < (a0.size : Int)) = true := decide_eq_true c2
        clear c2
        by_cases c3 : 0 ≤ x5_1
        · rw [if_pos c3] at H
          have c3b0 : decide (0 ≤ x5_1) = true := decide_eq_true c3
          clear c3
          by_cases c5 : (bt a0 x5_1) < 48
          · rw [if_pos c5] at H
            have c5b0 : decide ((bt a0 x5_1) < 48) = true := decide_eq_true c5
            clear c5
            simp only [Option.some.injEq, Prod.mk.injEq] at H
            obtain ⟨rfl, rfl⟩ := H
            have p4 : 0 ≤ (x5_1 : Int) := of_decide_eq_true (by first | (with_reducible assumption) | assumption)
            have q4 : x5_1 < (a0.size : Int) := of_decide_eq_true (by first | (with_reducible assumption) | assumption)
            have hx4 := bt_at a0 x5_1
            replace p4 := eq_true p4
            replace q4 := eq_true q4
            go_wp2
            go_ret2
            exact ⟨by first | rfl | (cases hz : a0.toList <;> simp [hz] <;> done) | (simp; done) | (simp [*]; done), by repeat (first | exact Drawn0.refl _ | apply Drawn0.step)⟩
          · rw [if_neg c5] at H
            have c5b0 : decide ((bt a0 x5_1) < 48) = false := decide_eq_false c5
            clear c5
            by_cases c7 : (bt a0 x5_1) > 57
            · rw [if_pos c7] at H
              have c7b0 : decide (57 < (bt a0 x5_1)) = true := decide_eq_true c7
              clear c7
              simp only [Option.some.injEq, Prod.mk.injEq] at H
              obtain ⟨rfl, rfl⟩ := H
              have p4 : 0 ≤ (x5_1 : Int) := of_decide_eq_true (by first | (with_reducible assumption) | assumption)
              have q4 : x5_1 < (a0.size : Int) := of_decide_eq_true (by first | (with_reducible assumption) | assumption)
              have hx4 := bt_at a0 x5_1
              replace p4 := eq_true p4
              replace q4 := eq_true q4
              have p6 : 0 ≤ (x5_1 : Int) := of_decide_eq_true (by first | (with_reducible assumption) | assumption)
              have q6 : x5_1 < (a0.size : Int) := of_decide_eq_true (by first | (with_reducible assumption) | assumption)
              have hx6 := bt_at a0 x5_1
              replace p6 := eq_true p6
              replace q6 := eq_true q6
              go_wp2
              go_ret2
              exact ⟨by first | rfl | (cases hz : a0.toList <;> simp [hz] <;> done) | (simp; done) | (simp [*]; done), by repeat (first | exact Drawn0.refl _ | apply Drawn0.step)⟩
            · rw [if_neg c7] at H
              have c7b0 : decide (57 < (bt a0 x5_1)) = false := decide_eq_false c7
              clear c7
              by_cases c8 : x5_1 ≥ 9
              · rw [if_pos c8] at H
                have c8b0 : decide (9 ≤ x5_1) = true := decide_eq_true c8
                clear c8
                simp only [Option.some.injEq, Prod.mk.injEq] at H
                obtain ⟨rfl, rfl⟩ := H
                have p4 : 0 ≤ (x5_1 : Int) := of_decide_eq_true (by first | (with_reducible assumption) | assumption)
                have q4 : x5_1 < (a0.size : Int) := of_decide_eq_true (by first | (with_reducible assumption) | assumption)
                have hx4 := bt_at a0 x5_1
                replace p4 := eq_true p4
                replace q4 := eq_true q4
                have p6 : 0 ≤ (x5_1 : Int) := of_decide_eq_true (by first | (with_reducible assumption) | assumption)
                have q6 : x5_1 < (a0.size : Int) := of_decide_eq_true (by first | (with_reducible assumption) | assumption)
                have hx6 := bt_at a0 x5_1
                replace p6 := eq_true p6
                replace q6 := eq_true q6
                go_wp2
                go_ret2
                exact ⟨by first | rfl | (cases hz : a0.toList <;> simp [hz] <;> done) | (simp; done) | (simp [*]; done), by repeat (first | exact Drawn0.refl _ | apply Drawn0.step)⟩
              · rw [if_neg c8] at H
                have c8b0 : decide (9 ≤ x5_1) = false := decide_eq_false c8
                clear c8
                have H' := Aside0.mk H
                clear H
                have p4 : 0 ≤ (x5_1 : Int) := of_decide_eq_true (by first | (with_reducible assumption) | assumption)
                have q4 : x5_1 < (a0.size : Int) := of_decide_eq_true (by first | (with_reducible assumption) | assumption)
                have hx4 := bt_at a0 x5_1
                replace p4 := eq_true p4
                replace q4 := eq_true q4
                have p6 : 0 ≤ (x5_1 : Int) := of_decide_eq_true (by first | (with_reducible assumption) | assumption)
                have q6 : x5_1 < (a0.size : Int) := of_decide_eq_true (by first | (with_reducible assumption) | assumption)
                have hx6 := bt_at a0 x5_1
                replace p6 := eq_true p6
                replace q6 := eq_true q6
                have p9 : 0 ≤ (x5_1 : Int) := of_decide_eq_true (by first | (with_reducible assumption) | assumption)
                have q9 : x5_1 < (a0.size : Int) := of_decide_eq_true (by first | (with_reducible assumption) | assumption)
                have hx9 := bt_at a0 x5_1
                replace p9 := eq_true p9
                replace q9 := eq_true q9
                go_wp2
                go_roundg k1
                case measure => have := HK1.out; omega
                case rel => exact ⟨(wrap64 ((wrap64 (10 * x4_1)) + (((bt a0 x5_1) - 48) % 256))), (wrap64 (x5_1 + 1)), (by first | rfl | (simp; done) | (simp [*]; done)), (by first | rfl | (simp; done) | (simp [*]; done)), H', ⟨by have := HK1.out; omega⟩, by repeat (first | exact Drawn0.refl _ | apply Drawn0.step)⟩
        · rw [if_neg c3] at H
          exact absurd H (by simp)
      · rw [if_neg c2] at H
        have c2b0 : decide (x5_1 < (a0.size : Int)) = false := decide_eq_false c2
        clear c2
        simp only [Option.some.injEq, Prod.mk.injEq] at H
        obtain ⟨rfl, rfl⟩ := H
        go_wp2
        go_ret2
        exact ⟨by first | rfl | (cases hz : a0.toList <;> simp [hz] <;> done) | (simp; done) | (simp [*]; done), by repeat (first | exact Drawn0.refl _ | apply Drawn0.step)⟩

end Go.Proofs.YtoncbpohjdackaaDoor.TX
