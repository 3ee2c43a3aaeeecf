/- The machine walks these functions as the plain functions say; written by a program of this session out of the translation, with contracts of some functions of our own. -/
import Derived.Test.YtogpbandlpjccaaGreatDoorXQ
namespace Go.Proofs.YtogpbandlpjccaaGreatDoor.TX
open Go.RowKit Go.Proofs.YtogpbandlpjccaaGreatDoorW.PrintWords Go.Proofs.YtogpbandlpjccaaGreatDoorW.PrintLast Go.Proofs.YtogpbandlpjccaaGreatDoorW.PrintMore
attribute [local go_sem] max2_int min2_int max_two min_two max_three min_three max_four min_four   -- for this text's walks alone
set_option linter.unusedVariables false
set_option linter.unusedSimpArgs false
def impl_ValidPoint.f (a0_0 : Int) (a0_1 : Int) : Option (Bool) := some (Go.G880.impl_ValidPoint ⟨a0_0, a0_1⟩)
theorem impl_ValidPoint.calls (a0_0 : Int) (a0_1 : Int) (r : Bool) (w : World) (h : impl_ValidPoint.f a0_0 a0_1 = some r) :
    Calls Tryz.prog 76 #[.agg #[.int .i64 a0_0, .int .i64 a0_1]] w fun e w' => e = .returned (.bool r) ∧ Below w.heap.size w w' := by
  obtain rfl := Option.some.inj h
  exact (impl_ValidPoint.gives ⟨a0_0, a0_1⟩).calls rfl rfl w
def impl_within.f (a0 : Int) (a1 : Int) (a2 : Int) : Option (Bool) := if a0 ≥ a1 then (some (decide (a0 ≤ a2))) else (some false)
set_option maxHeartbeats 8000000 in
set_option maxRecDepth 100000 in
theorem impl_within.calls (a0 : Int) (a1 : Int) (a2 : Int) (r : Bool) (w : World) (h : impl_within.f a0 a1 a2 = some r) :
    Calls Tryz.prog 78 #[.int .i64 a0, .int .i64 a1, .int .i64 a2] w fun e w' => e = .returned (.bool r) ∧ Drawn0 w w' := by
  have H : (if a0 ≥ a1 then (some (decide (a0 ≤ a2))) else (some false)) = some r := h
  clear h
  by_cases c4 : a0 ≥ a1
  · rw [if_pos c4] at H
    have c4b0 : decide (a1 ≤ a0) = true := decide_eq_true c4
    clear c4
    obtain rfl := Option.some.inj H
    go_enter Tryz.func78, Tryz.ntmps78
    go_wp2
    go_ret
    exact ⟨by first | rfl | (simp; done) | (simp [*]; done), by repeat (first | exact Drawn0.refl _ | apply Drawn0.step)⟩
  · rw [if_neg c4] at H
    have c4b0 : decide (a1 ≤ a0) = false := decide_eq_false c4
    clear c4
    obtain rfl := Option.some.inj H
    go_enter Tryz.func78, Tryz.ntmps78
    go_wp2
    go_ret
    exact ⟨by first | rfl | (simp; done) | (simp [*]; done), by repeat (first | exact Drawn0.refl _ | apply Drawn0.step)⟩
def strconv_FormatInt_197.f (a0 : Int) (a1 : Int) : Option ByteArray := if a1 = 10 then (if -9223372036854775808 ≤ a0 ∧ a0 ≤ 9223372036854775807 then some ⟨(Lib.itoa a0).toArray⟩ else none) else none
theorem strconv_FormatInt_197.calls {b_ : Bool} (a0 : Int) (a1 : Int) (r : ByteArray) (w : World) (hO_ : Ok_ b_ w) (h : strconv_FormatInt_197.f a0 a1 = some r) :
    Calls Tryz.prog 197 #[.int .i64 a0, .int .i64 a1] w fun e w' => e = .returned (.string r) ∧ Below w.heap.size w w' := by
  unfold strconv_FormatInt_197.f at h
  by_cases h1 : a1 = 10
  · rw [if_pos h1] at h
    by_cases h2 : -9223372036854775808 ≤ a0 ∧ a0 ≤ 9223372036854775807
    · rw [if_pos h2] at h
      subst h1
      exact formatInt_ a0 r h2.1 h2.2 w hO_ (Option.some.inj h)
    · rw [if_neg h2] at h; cases h
  · rw [if_neg h1] at h; cases h
def impl_Decimal.f (a0 : Int) : Option (ByteArray) := (strconv_FormatInt_197.f a0 10).bind fun t186 => (some t186)
set_option maxHeartbeats 8000000 in
set_option maxRecDepth 100000 in
theorem impl_Decimal.calls {b_ : Bool} (a0 : Int) (r : ByteArray) (w : World) (hO_ : Ok_ b_ w) (h : impl_Decimal.f a0 = some r) :
    Calls Tryz.prog 141 #[.int .i64 a0] w fun e w' => e = .returned (.string r) ∧ Below w.heap.size w w' := by
  have HB := Aside0.mk (Below.refl w.heap.size w)
  have H : ((strconv_FormatInt_197.f a0 10).bind fun t186 => (some t186)) = some r := h
  clear h
  replace H := Option.bind_eq_some_iff.mp H
  obtain ⟨t186, A20, H⟩ := H
  replace H : (some t186) = some r := H
  have A2 := Aside0.mk A20
  clear A20
  obtain rfl := Option.some.inj H
  go_enter Tryz.func141, Tryz.ntmps141
  go_wp2_with (first | ((with_reducible refine gate_callee (f := 197) rfl ?_); refine goesL_ (some 4) rfl rfl Tryz.func197 (by kernel_rfl) rfl #[.int .i64 a0, .int .i64 10] rfl (by (try simp only [List.map_toArray, List.map_cons, List.map_nil]); first | done | rfl | (simp only [List.length_drop, List.length_take]; rfl)) ?_; (with_reducible refine (strconv_FormatInt_197.calls a0 10 t186 _ (okd_ hO_ (b0 HB.out)) A2.out).mono ?_); rintro e w3 ⟨rfl, hb⟩; refine ⟨_, rfl, ?_⟩; replace HB := Aside0.mk (below_step (b0 HB.out) hb); (try clear hb); (try clear hb2); (try clear hk); (try clear hi)))
  go_ret
  exact ⟨by first | rfl | (simp [errW_none, errW_some] <;> rfl) | (simp [*, errW_none, errW_some] <;> rfl), b0 HB.out⟩
def strings_Repeat.f (a0 : ByteArray) (a1 : Int) : Option ByteArray := if 0 ≤ a1 ∧ a1 ≤ 9223372036854775807 ∧ a0.size * a1.toNat ≤ 140737488355328 then some ⟨(Lib.repeatL a0.data.toList a1.toNat).toArray⟩ else none
theorem strings_Repeat.calls {b_ : Bool} (a0 : ByteArray) (a1 : Int) (r : ByteArray) (w : World) (hO_ : Ok_ b_ w) (h : strings_Repeat.f a0 a1 = some r) :
    Calls Tryz.prog 198 #[.string a0, .int .i64 a1] w fun e w' => e = .returned (.string r) ∧ Below w.heap.size w w' := by
  unfold strings_Repeat.f at h
  by_cases h2 : 0 ≤ a1 ∧ a1 ≤ 9223372036854775807 ∧ a0.size * a1.toNat ≤ 140737488355328
  · rw [if_pos h2] at h
    exact repeat_ a0 a1 r h2.1 h2.2.1 h2.2.2 w (Option.some.inj h)
  · rw [if_neg h2] at h; cases h
def impl_powerOfTen.l0 : Nat → Int → Int → Int → Option (Int)
  | 0, _, _, _ => none
  | k + 1, x3, x4, x5 => if x5 < x4 then (impl_powerOfTen.l0 k (wrap64 (x3 * 10)) x4 (wrap64 (x5 + 1))) else (some x3)
def impl_powerOfTen.f (k : Nat) (a0 : Int) : Option (Int) := impl_powerOfTen.l0 k 1 a0 0
theorem impl_powerOfTen.mono_l : ∀ k, (∀ y0 y1 y2, LeO (impl_powerOfTen.l0 k y0 y1 y2) (impl_powerOfTen.l0 (k + 1) y0 y1 y2))
  | 0 => fun _ _ _ r h => by simp [impl_powerOfTen.l0] at h
  | k + 1 => by
    have ih0 := impl_powerOfTen.mono_l k
    · intro y0 y1 y2
      unfold impl_powerOfTen.l0
      repeat' first
      | (with_reducible exact ih0 _ _ _)
      | (with_reducible exact LeO.refl _)
      | (with_reducible exact LeO.none _)
      | (with_reducible refine LeO.ite ?_ ?_)
      | (with_reducible refine LeO.bind ?_ (fun _ => ?_))
      | exact ih0 _ _ _
      | exact LeO.none _
      | refine LeO.ite ?_ ?_
      | refine LeO.bind ?_ (fun _ => ?_)
theorem impl_powerOfTen.mono : ∀ a0 k, LeO (impl_powerOfTen.f k a0) (impl_powerOfTen.f (k + 1) a0) := by
  intro a0 k
  have ih0 := impl_powerOfTen.mono_l k
  unfold impl_powerOfTen.f
  repeat' first
      | (with_reducible exact ih0 _ _ _)
      | (with_reducible exact LeO.refl _)
      | (with_reducible exact LeO.none _)
      | (with_reducible refine LeO.ite ?_ ?_)
      | (with_reducible refine LeO.bind ?_ (fun _ => ?_))
      | exact ih0 _ _ _
      | exact LeO.none _
      | refine LeO.ite ?_ ?_
      | refine LeO.bind ?_ (fun _ => ?_)
set_option maxHeartbeats 8000000 in
set_option maxRecDepth 100000 in
theorem impl_powerOfTen.calls (k : Nat) (a0 : Int) (r : Int) (w : World) (h : impl_powerOfTen.f k a0 = some r) :
    Calls Tryz.prog 244 #[.int .i64 a0] w fun e w' => e = .returned (.int .i64 r) ∧ Drawn0 w w' := by
  have H : (impl_powerOfTen.l0 k 1 a0 0) = some r := h
  clear h
  have H' := Aside0.mk H
  clear H
  go_enter Tryz.func244, Tryz.ntmps244
  go_wp2
  go_loopg [3, 5] k (fun kq v3 v5 w' => ∃ (x3_1 : Int) (x5_1 : Int), v3 = .int .i64 x3_1 ∧ v5 = .int .i64 x5_1 ∧ Aside0 (impl_powerOfTen.l0 kq x3_1 a0 x5_1 = some r) ∧ Aside0 (kq ≤ k) ∧ Drawn0 w w')
  case atStart => exact ⟨(1), (0), er, er, H', ⟨Nat.le_refl _⟩, by repeat (first | exact Drawn0.refl _ | apply Drawn0.step)⟩
  case round =>
    clear H'
    obtain ⟨x3_1, x5_1, rfl, rfl, HA, HK1, ⟨m1, rfl⟩⟩ := hrel
    cases gk with
    | zero => exact absurd HA.out (by simp [impl_powerOfTen.l0])
    | succ k1 =>
      have H := HA.out
      clear HA
      simp only [impl_powerOfTen.l0] at H
      by_cases c2 : x5_1 < a0
      · rw [if_pos c2] at H
        have c2b0 : decide (x5_1 < a0) = true := decide_eq_true c2
        clear c2
        have H' := Aside0.mk H
        clear H
        go_wp2
        go_roundg k1
        case measure => have := HK1.out; omega
        case rel => exact ⟨(wrap64 (x3_1 * 10)), (wrap64 (x5_1 + 1)), er, er, H', ⟨by have := HK1.out; omega⟩, by repeat (first | exact Drawn0.refl _ | apply Drawn0.step)⟩
      · rw [if_neg c2] at H
        have c2b0 : decide (x5_1 < a0) = false := decide_eq_false c2
        clear c2
        obtain rfl := Option.some.inj H
        go_wp2
        go_ret
        exact ⟨by first | rfl | (simp; done) | (simp [*]; done), by repeat (first | exact Drawn0.refl _ | apply Drawn0.step)⟩
def impl_digitsText.j0 : Nat → Int → Int → ByteArray → Option (ByteArray)
  | 0, _, _, _ => none
  | k + 1, x0, x1, x5 => (impl_powerOfTen.f k x1).bind fun t187 => (if t187 = 0 then (none) else ((impl_Decimal.f (wrap64 (Int.tdiv x0 t187))).bind fun t188 => (if x5.size + t188.size ≤ 9223372036854775807 then (if x1 = 0 then (some (x5 ++ t188)) else ((impl_Decimal.f (Int.tmod x0 t187)).bind fun t189 => (if (x5 ++ t188).size + 1 ≤ 9223372036854775807 then ((strings_Repeat.f (⟨#[48]⟩ : ByteArray) (wrap64 (x1 - (t189.size : Int)))).bind fun t190 => (if ((x5 ++ t188) ++ (⟨#[46]⟩ : ByteArray)).size + t190.size ≤ 9223372036854775807 then (if (((x5 ++ t188) ++ (⟨#[46]⟩ : ByteArray)) ++ t190).size + t189.size ≤ 9223372036854775807 then (some ((((x5 ++ t188) ++ (⟨#[46]⟩ : ByteArray)) ++ t190) ++ t189)) else (none)) else (none))) else (none)))) else (none))))
def impl_digitsText.f (k : Nat) (a0 : Int) (a1 : Int) : Option (ByteArray) := if a0 < 0 then (impl_digitsText.j0 k (wrap64 (-a0)) a1 (⟨#[45]⟩ : ByteArray)) else (impl_digitsText.j0 k a0 a1 (⟨#[]⟩ : ByteArray))
theorem impl_digitsText.mono_l : ∀ k, (∀ y0 y1 y2, LeO (impl_digitsText.j0 k y0 y1 y2) (impl_digitsText.j0 (k + 1) y0 y1 y2))
  | 0 => fun _ _ _ r h => by simp [impl_digitsText.j0] at h
  | k + 1 => by
    have ih0 := impl_digitsText.mono_l k
    · intro y0 y1 y2
      unfold impl_digitsText.j0
      repeat' first
      | (with_reducible exact ih0 _ _ _)
      | (with_reducible exact impl_powerOfTen.mono _ _)
      | (with_reducible exact LeO.refl _)
      | (with_reducible exact LeO.none _)
      | (with_reducible refine LeO.ite ?_ ?_)
      | (with_reducible refine LeO.bind ?_ (fun _ => ?_))
      | exact ih0 _ _ _
      | exact impl_powerOfTen.mono _ _
      | exact LeO.none _
      | refine LeO.ite ?_ ?_
      | refine LeO.bind ?_ (fun _ => ?_)
theorem impl_digitsText.mono : ∀ a0 a1 k, LeO (impl_digitsText.f k a0 a1) (impl_digitsText.f (k + 1) a0 a1) := by
  intro a0 a1 k
  have ih0 := impl_digitsText.mono_l k
  unfold impl_digitsText.f
  repeat' first
      | (with_reducible exact ih0 _ _ _)
      | (with_reducible exact impl_powerOfTen.mono _ _)
      | (with_reducible exact LeO.refl _)
      | (with_reducible exact LeO.none _)
      | (with_reducible refine LeO.ite ?_ ?_)
      | (with_reducible refine LeO.bind ?_ (fun _ => ?_))
      | exact ih0 _ _ _
      | exact impl_powerOfTen.mono _ _
      | exact LeO.none _
      | refine LeO.ite ?_ ?_
      | refine LeO.bind ?_ (fun _ => ?_)
set_option maxHeartbeats 8000000 in
set_option maxRecDepth 100000 in
theorem impl_digitsText.calls {b_ : Bool} (k : Nat) (a0 : Int) (a1 : Int) (r : ByteArray) (w : World) (hO_ : Ok_ b_ w) (h : impl_digitsText.f k a0 a1 = some r) :
    Calls Tryz.prog 196 #[.int .i64 a0, .int .i64 a1] w fun e w' => e = .returned (.string r) ∧ Below w.heap.size w w' := by
  have HB := Aside0.mk (Below.refl w.heap.size w)
  have H : (if a0 < 0 then (impl_digitsText.j0 k (wrap64 (-a0)) a1 (⟨#[45]⟩ : ByteArray)) else (impl_digitsText.j0 k a0 a1 (⟨#[]⟩ : ByteArray))) = some r := h
  clear h
  have HC3 := Aside0.mk H
  clear H
  go_enter Tryz.func196, Tryz.ntmps196
  go_upto_if 10 with (fail)
  go_cut [0, 5] (fun v0 v5 wc => ∃ (kq : Nat) (x0_2 : Int) (x5_2 : ByteArray), v0 = .int .i64 x0_2 ∧ v5 = .string x5_2 ∧ Aside0 (impl_digitsText.j0 kq x0_2 a1 x5_2 = some r) ∧ Aside0 (kq ≤ k) ∧ Aside0 (Below w.heap.size w wc))
  case first =>
    have H := HC3.out
    clear HC3
    by_cases c4 : a0 < 0
    · rw [if_pos c4] at H
      have c4b0 : decide (a0 < 0) = true := decide_eq_true c4
      clear c4
      (first | rw [c4b0] | (simp only [i64_w, i32_w]; rw [c4b0]) | skip)
      have H' := Aside0.mk H
      clear H
      go_wp2
      go_meet
      case rel => exact ⟨_, (wrap64 (-a0)), ((⟨#[45]⟩ : ByteArray)), er, er, H', ⟨by first | omega | exact Nat.le_refl _⟩, ⟨b0 HB.out⟩⟩
    · rw [if_neg c4] at H
      have c4b0 : decide (a0 < 0) = false := decide_eq_false c4
      clear c4
      (first | rw [c4b0] | (simp only [i64_w, i32_w]; rw [c4b0]) | skip)
      have H' := Aside0.mk H
      clear H
      go_wp2
      go_meet
      case rel => exact ⟨_, (a0), ((⟨#[]⟩ : ByteArray)), er, er, H', ⟨by first | omega | exact Nat.le_refl _⟩, ⟨b0 HB.out⟩⟩
  case rest =>
    clear HC3
    try clear c1
    try clear p2
    try clear c4
    try clear c4b0
    obtain ⟨kq, x0_2, x5_2, rfl, rfl, HA, HJ2, HB⟩ := hcut
    cases kq with
    | zero => exact absurd HA.out (by simp [impl_digitsText.j0])
    | succ kj2 =>
      have H := HA.out
      clear HA
      simp only [impl_digitsText.j0] at H
      replace H := Option.bind_eq_some_iff.mp H
      obtain ⟨t187, A50, H⟩ := H
      replace H : (if t187 = 0 then (none) else ((impl_Decimal.f (wrap64 (Int.tdiv x0_2 t187))).bind fun t188 => (if x5_2.size + t188.size ≤ 9223372036854775807 then (if a1 = 0 then (some (x5_2 ++ t188)) else ((impl_Decimal.f (Int.tmod x0_2 t187)).bind fun t189 => (if (x5_2 ++ t188).size + 1 ≤ 9223372036854775807 then ((strings_Repeat.f (⟨#[48]⟩ : ByteArray) (wrap64 (a1 - (t189.size : Int)))).bind fun t190 => (if ((x5_2 ++ t188) ++ (⟨#[46]⟩ : ByteArray)).size + t190.size ≤ 9223372036854775807 then (if (((x5_2 ++ t188) ++ (⟨#[46]⟩ : ByteArray)) ++ t190).size + t189.size ≤ 9223372036854775807 then (some ((((x5_2 ++ t188) ++ (⟨#[46]⟩ : ByteArray)) ++ t190) ++ t189)) else (none)) else (none))) else (none)))) else (none)))) = some r := H
      have A5 := Aside0.mk A50
      clear A50
      by_cases c6 : t187 = 0
      · rw [if_pos c6] at H
        exact absurd H (by simp)
      · rw [if_neg c6] at H
        have c6b0 : (t187 == 0) = false := beq_eq_false_iff_ne.mpr c6
        have c6b1 : (t187 != 0) = true := bne_iff_ne.mpr c6
        replace H := Option.bind_eq_some_iff.mp H
        obtain ⟨t188, A70, H⟩ := H
        replace H : (if x5_2.size + t188.size ≤ 9223372036854775807 then (if a1 = 0 then (some (x5_2 ++ t188)) else ((impl_Decimal.f (Int.tmod x0_2 t187)).bind fun t189 => (if (x5_2 ++ t188).size + 1 ≤ 9223372036854775807 then ((strings_Repeat.f (⟨#[48]⟩ : ByteArray) (wrap64 (a1 - (t189.size : Int)))).bind fun t190 => (if ((x5_2 ++ t188) ++ (⟨#[46]⟩ : ByteArray)).size + t190.size ≤ 9223372036854775807 then (if (((x5_2 ++ t188) ++ (⟨#[46]⟩ : ByteArray)) ++ t190).size + t189.size ≤ 9223372036854775807 then (some ((((x5_2 ++ t188) ++ (⟨#[46]⟩ : ByteArray)) ++ t190) ++ t189)) else (none)) else (none))) else (none)))) else (none)) = some r := H
        have A7 := Aside0.mk A70
        clear A70
        by_cases c8 : x5_2.size + t188.size ≤ 9223372036854775807
        · rw [if_pos c8] at H
          have c8b0 := eq_true c8
          have c8b1 : decide (x5_2.size + t188.size ≤ 9223372036854775807) = true := decide_eq_true c8
          try have c8b2 : (9223372036854775807 < x5_2.size + t188.size) = False := eq_false (Nat.not_lt.2 c8)
          by_cases c9 : a1 = 0
          · rw [if_pos c9] at H
            have c9b0 : (a1 == 0) = true := beq_iff_eq.mpr c9
            have c9b1 : (a1 != 0) = false := bne_eq_false_iff_eq.mpr c9
            clear c9
            obtain rfl := Option.some.inj H
            go_wp2_with (first | ((with_reducible refine gate_callee (f := 244) rfl ?_); refine goesL_ (some 14) rfl rfl Tryz.func244 (by kernel_rfl) rfl #[.int .i64 a1] rfl (by (try simp only [List.map_toArray, List.map_cons, List.map_nil]); first | done | rfl | (simp only [List.length_drop, List.length_take]; rfl)) ?_; (with_reducible refine (impl_powerOfTen.calls kj2 a1 t187 _ A5.out).mono ?_); rintro e w' ⟨rfl, ⟨nd, rfl⟩⟩; refine ⟨_, rfl, ?_⟩) | ((with_reducible refine gate_callee (f := 141) rfl ?_); refine goesL_ (some 19) rfl rfl Tryz.func141 (by kernel_rfl) rfl #[.int .i64 (wrap64 (Int.tdiv x0_2 t187))] rfl (by (try simp only [List.map_toArray, List.map_cons, List.map_nil]); first | done | rfl | (simp only [List.length_drop, List.length_take]; rfl)) ?_; (with_reducible refine (impl_Decimal.calls (wrap64 (Int.tdiv x0_2 t187)) t188 _ (okd_ hO_ (b0 HB.out)) A7.out).mono ?_); rintro e w10 ⟨rfl, hb⟩; refine ⟨_, rfl, ?_⟩; replace HB := Aside0.mk (below_step (b0 HB.out) hb); (try clear hb); (try clear hb2); (try clear hk); (try clear hi)))
            go_ret
            exact ⟨by first | rfl | (simp [errW_none, errW_some] <;> rfl) | (simp [*, errW_none, errW_some] <;> rfl), b0 HB.out⟩
          · rw [if_neg c9] at H
            have c9b0 : (a1 == 0) = false := beq_eq_false_iff_ne.mpr c9
            have c9b1 : (a1 != 0) = true := bne_iff_ne.mpr c9
            replace H := Option.bind_eq_some_iff.mp H
            obtain ⟨t189, A110, H⟩ := H
            replace H : (if (x5_2 ++ t188).size + 1 ≤ 9223372036854775807 then ((strings_Repeat.f (⟨#[48]⟩ : ByteArray) (wrap64 (a1 - (t189.size : Int)))).bind fun t190 => (if ((x5_2 ++ t188) ++ (⟨#[46]⟩ : ByteArray)).size + t190.size ≤ 9223372036854775807 then (if (((x5_2 ++ t188) ++ (⟨#[46]⟩ : ByteArray)) ++ t190).size + t189.size ≤ 9223372036854775807 then (some ((((x5_2 ++ t188) ++ (⟨#[46]⟩ : ByteArray)) ++ t190) ++ t189)) else (none)) else (none))) else (none)) = some r := H
            have A11 := Aside0.mk A110
            clear A110
            by_cases c12 : (x5_2 ++ t188).size + 1 ≤ 9223372036854775807
            · rw [if_pos c12] at H
              have c12b0 := eq_true c12
              have c12b1 : decide ((x5_2 ++ t188).size + 1 ≤ 9223372036854775807) = true := decide_eq_true c12
              try have c12b2 : (9223372036854775807 < (x5_2 ++ t188).size + 1) = False := eq_false (Nat.not_lt.2 c12)
              have c12z := c12
              try simp only [ByteArray.size_append] at c12z
              try have c12b3 := eq_false (Nat.not_lt.2 c12z)
              try have c12b4 := eq_true c12z
              replace H := Option.bind_eq_some_iff.mp H
              obtain ⟨t190, A130, H⟩ := H
              replace H : (if ((x5_2 ++ t188) ++ (⟨#[46]⟩ : ByteArray)).size + t190.size ≤ 9223372036854775807 then (if (((x5_2 ++ t188) ++ (⟨#[46]⟩ : ByteArray)) ++ t190).size + t189.size ≤ 9223372036854775807 then (some ((((x5_2 ++ t188) ++ (⟨#[46]⟩ : ByteArray)) ++ t190) ++ t189)) else (none)) else (none)) = some r := H
              have A13 := Aside0.mk A130
              clear A130
              by_cases c14 : ((x5_2 ++ t188) ++ (⟨#[46]⟩ : ByteArray)).size + t190.size ≤ 9223372036854775807
              · rw [if_pos c14] at H
                have c14b0 := eq_true c14
                have c14b1 : decide (((x5_2 ++ t188) ++ (⟨#[46]⟩ : ByteArray)).size + t190.size ≤ 9223372036854775807) = true := decide_eq_true c14
                try have c14b2 : (9223372036854775807 < ((x5_2 ++ t188) ++ (⟨#[46]⟩ : ByteArray)).size + t190.size) = False := eq_false (Nat.not_lt.2 c14)
                have c14z := c14
                try simp only [ByteArray.size_append, show (⟨#[46]⟩ : ByteArray).size = 1 from rfl] at c14z
                try have c14b3 := eq_false (Nat.not_lt.2 c14z)
                try have c14b4 := eq_true c14z
                by_cases c15 : (((x5_2 ++ t188) ++ (⟨#[46]⟩ : ByteArray)) ++ t190).size + t189.size ≤ 9223372036854775807
                · rw [if_pos c15] at H
                  have c15b0 := eq_true c15
                  have c15b1 : decide ((((x5_2 ++ t188) ++ (⟨#[46]⟩ : ByteArray)) ++ t190).size + t189.size ≤ 9223372036854775807) = true := decide_eq_true c15
                  try have c15b2 : (9223372036854775807 < (((x5_2 ++ t188) ++ (⟨#[46]⟩ : ByteArray)) ++ t190).size + t189.size) = False := eq_false (Nat.not_lt.2 c15)
                  have c15z := c15
                  try simp only [ByteArray.size_append, show (⟨#[46]⟩ : ByteArray).size = 1 from rfl] at c15z
                  try have c15b3 := eq_false (Nat.not_lt.2 c15z)
                  try have c15b4 := eq_true c15z
                  obtain rfl := Option.some.inj H
                  go_wp2_with (first | ((with_reducible refine gate_callee (f := 244) rfl ?_); refine goesL_ (some 14) rfl rfl Tryz.func244 (by kernel_rfl) rfl #[.int .i64 a1] rfl (by (try simp only [List.map_toArray, List.map_cons, List.map_nil]); first | done | rfl | (simp only [List.length_drop, List.length_take]; rfl)) ?_; (with_reducible refine (impl_powerOfTen.calls kj2 a1 t187 _ A5.out).mono ?_); rintro e w' ⟨rfl, ⟨nd, rfl⟩⟩; refine ⟨_, rfl, ?_⟩) | ((with_reducible refine gate_callee (f := 141) rfl ?_); refine goesL_ (some 19) rfl rfl Tryz.func141 (by kernel_rfl) rfl #[.int .i64 (wrap64 (Int.tdiv x0_2 t187))] rfl (by (try simp only [List.map_toArray, List.map_cons, List.map_nil]); first | done | rfl | (simp only [List.length_drop, List.length_take]; rfl)) ?_; (with_reducible refine (impl_Decimal.calls (wrap64 (Int.tdiv x0_2 t187)) t188 _ (okd_ hO_ (b0 HB.out)) A7.out).mono ?_); rintro e w16 ⟨rfl, hb⟩; refine ⟨_, rfl, ?_⟩; replace HB := Aside0.mk (below_step (b0 HB.out) hb); (try clear hb); (try clear hb2); (try clear hk); (try clear hi)) | ((with_reducible refine gate_callee (f := 141) rfl ?_); refine goesL_ (some 27) rfl rfl Tryz.func141 (by kernel_rfl) rfl #[.int .i64 (Int.tmod x0_2 t187)] rfl (by (try simp only [List.map_toArray, List.map_cons, List.map_nil]); first | done | rfl | (simp only [List.length_drop, List.length_take]; rfl)) ?_; (with_reducible refine (impl_Decimal.calls (Int.tmod x0_2 t187) t189 _ (okd_ hO_ (b0 HB.out)) A11.out).mono ?_); rintro e w17 ⟨rfl, hb⟩; refine ⟨_, rfl, ?_⟩; replace HB := Aside0.mk (below_step (b0 HB.out) hb); (try clear hb); (try clear hb2); (try clear hk); (try clear hi)) | ((with_reducible refine gate_callee (f := 198) rfl ?_); refine goesL_ (some 34) rfl rfl Tryz.func198 (by kernel_rfl) rfl #[.string (⟨#[48]⟩ : ByteArray), .int .i64 (wrap64 (a1 - (t189.size : Int)))] rfl (by (try simp only [List.map_toArray, List.map_cons, List.map_nil]); first | done | rfl | (simp only [List.length_drop, List.length_take]; rfl)) ?_; (with_reducible refine (strings_Repeat.calls (⟨#[48]⟩ : ByteArray) (wrap64 (a1 - (t189.size : Int))) t190 _ (okd_ hO_ (b0 HB.out)) A13.out).mono ?_); rintro e w18 ⟨rfl, hb⟩; refine ⟨_, rfl, ?_⟩; replace HB := Aside0.mk (below_step (b0 HB.out) hb); (try clear hb); (try clear hb2); (try clear hk); (try clear hi)))
                  go_ret
                  exact ⟨by first | rfl | (simp [errW_none, errW_some] <;> rfl) | (simp [*, errW_none, errW_some] <;> rfl), b0 HB.out⟩
                · rw [if_neg c15] at H
                  exact absurd H (by simp)
              · rw [if_neg c14] at H
                exact absurd H (by simp)
            · rw [if_neg c12] at H
              exact absurd H (by simp)
        · rw [if_neg c8] at H
          exact absurd H (by simp)
def impl_degreesText.f (k : Nat) (a0 : Int) : Option (ByteArray) := (impl_digitsText.f k a0 7).bind fun t191 => (some t191)
theorem impl_degreesText.mono : ∀ a0 k, LeO (impl_degreesText.f k a0) (impl_degreesText.f (k + 1) a0) := by
  intro a0 k
  unfold impl_degreesText.f
  repeat' first
      | (with_reducible exact impl_digitsText.mono _ _ _)
      | (with_reducible exact LeO.refl _)
      | (with_reducible exact LeO.none _)
      | (with_reducible refine LeO.ite ?_ ?_)
      | (with_reducible refine LeO.bind ?_ (fun _ => ?_))
      | exact impl_digitsText.mono _ _ _
      | exact LeO.none _
      | refine LeO.ite ?_ ?_
      | refine LeO.bind ?_ (fun _ => ?_)
set_option maxHeartbeats 8000000 in
set_option maxRecDepth 100000 in
theorem impl_degreesText.calls {b_ : Bool} (k : Nat) (a0 : Int) (r : ByteArray) (w : World) (hO_ : Ok_ b_ w) (h : impl_degreesText.f k a0 = some r) :
    Calls Tryz.prog 139 #[.int .i64 a0] w fun e w' => e = .returned (.string r) ∧ Below w.heap.size w w' := by
  have HB := Aside0.mk (Below.refl w.heap.size w)
  have H : ((impl_digitsText.f k a0 7).bind fun t191 => (some t191)) = some r := h
  clear h
  replace H := Option.bind_eq_some_iff.mp H
  obtain ⟨t191, A20, H⟩ := H
  replace H : (some t191) = some r := H
  have A2 := Aside0.mk A20
  clear A20
  obtain rfl := Option.some.inj H
  go_enter Tryz.func139, Tryz.ntmps139
  go_wp2_with (first | ((with_reducible refine gate_callee (f := 196) rfl ?_); refine goesL_ (some 4) rfl rfl Tryz.func196 (by kernel_rfl) rfl #[.int .i64 a0, .int .i64 7] rfl (by (try simp only [List.map_toArray, List.map_cons, List.map_nil]); first | done | rfl | (simp only [List.length_drop, List.length_take]; rfl)) ?_; (with_reducible refine (impl_digitsText.calls k a0 7 t191 _ (okd_ hO_ (b0 HB.out)) A2.out).mono ?_); rintro e w3 ⟨rfl, hb⟩; refine ⟨_, rfl, ?_⟩; replace HB := Aside0.mk (below_step (b0 HB.out) hb); (try clear hb); (try clear hb2); (try clear hk); (try clear hi)))
  go_ret
  exact ⟨by first | rfl | (simp [errW_none, errW_some] <;> rfl) | (simp [*, errW_none, errW_some] <;> rfl), b0 HB.out⟩
def impl_pointText.f (k : Nat) (a0_0 : Int) (a0_1 : Int) : Option (ByteArray) := (impl_degreesText.f k a0_0).bind fun t193 => (if t193.size + 1 ≤ 9223372036854775807 then ((impl_degreesText.f k a0_1).bind fun t194 => (if (t193 ++ (⟨#[32]⟩ : ByteArray)).size + t194.size ≤ 9223372036854775807 then (some ((t193 ++ (⟨#[32]⟩ : ByteArray)) ++ t194)) else (none))) else (none))
theorem impl_pointText.mono : ∀ a0 a1 k, LeO (impl_pointText.f k a0 a1) (impl_pointText.f (k + 1) a0 a1) := by
  intro a0 a1 k
  unfold impl_pointText.f
  repeat' first
      | (with_reducible exact impl_degreesText.mono _ _)
      | (with_reducible exact LeO.refl _)
      | (with_reducible exact LeO.none _)
      | (with_reducible refine LeO.ite ?_ ?_)
      | (with_reducible refine LeO.bind ?_ (fun _ => ?_))
      | exact impl_degreesText.mono _ _
      | exact LeO.none _
      | refine LeO.ite ?_ ?_
      | refine LeO.bind ?_ (fun _ => ?_)
def impl_pointText.T1 : Bool × List (List Nat × List Nat) := (true, [([], []), ([0], [0]), ([1], [1]), ([2], [2]), ([], []), ([4], [4]), ([5, 2], [5]), ([3, 6], [3, 6]), ([7, 6, 0, 1, 2, 3, 4, 5, 6, 7], [7])])
def impl_pointText.B1 : List Nat := [0, 1, 3, 7, 0, 16, 55, 127, 255]
theorem impl_pointText.tab1 : rtab .any (opsOf Tryz.f77 1) = impl_pointText.T1 := by kernel_rfl
theorem impl_pointText.bits1 : waitsOk impl_pointText.T1.2 impl_pointText.B1 = true := by kernel_rfl
set_option maxHeartbeats 8000000 in
set_option maxRecDepth 100000 in
theorem impl_pointText.calls {b_ : Bool} (k : Nat) (a0_0 : Int) (a0_1 : Int) (r : ByteArray) (w : World) (hO_ : Ok_ b_ w) (h : impl_pointText.f k a0_0 a0_1 = some r) :
    Calls Tryz.prog 77 #[.agg #[.int .i64 a0_0, .int .i64 a0_1]] w fun e w' => e = .returned (.string r) ∧ Below w.heap.size w w' := by
  have hu28 := Tryz.underlying28
  have HB := Aside0.mk (Below.refl w.heap.size w)
  have H : ((impl_degreesText.f k a0_0).bind fun t193 => (if t193.size + 1 ≤ 9223372036854775807 then ((impl_degreesText.f k a0_1).bind fun t194 => (if (t193 ++ (⟨#[32]⟩ : ByteArray)).size + t194.size ≤ 9223372036854775807 then (some ((t193 ++ (⟨#[32]⟩ : ByteArray)) ++ t194)) else (none))) else (none))) = some r := h
  clear h
  replace H := Option.bind_eq_some_iff.mp H
  obtain ⟨t193, A20, H⟩ := H
  replace H : (if t193.size + 1 ≤ 9223372036854775807 then ((impl_degreesText.f k a0_1).bind fun t194 => (if (t193 ++ (⟨#[32]⟩ : ByteArray)).size + t194.size ≤ 9223372036854775807 then (some ((t193 ++ (⟨#[32]⟩ : ByteArray)) ++ t194)) else (none))) else (none)) = some r := H
  have A2 := Aside0.mk A20
  clear A20
  by_cases c3 : t193.size + 1 ≤ 9223372036854775807
  · rw [if_pos c3] at H
    have c3b0 := eq_true c3
    have c3b1 : decide (t193.size + 1 ≤ 9223372036854775807) = true := decide_eq_true c3
    try have c3b2 : (9223372036854775807 < t193.size + 1) = False := eq_false (Nat.not_lt.2 c3)
    replace H := Option.bind_eq_some_iff.mp H
    obtain ⟨t194, A40, H⟩ := H
    replace H : (if (t193 ++ (⟨#[32]⟩ : ByteArray)).size + t194.size ≤ 9223372036854775807 then (some ((t193 ++ (⟨#[32]⟩ : ByteArray)) ++ t194)) else (none)) = some r := H
    have A4 := Aside0.mk A40
    clear A40
    by_cases c5 : (t193 ++ (⟨#[32]⟩ : ByteArray)).size + t194.size ≤ 9223372036854775807
    · rw [if_pos c5] at H
      have c5b0 := eq_true c5
      have c5b1 : decide ((t193 ++ (⟨#[32]⟩ : ByteArray)).size + t194.size ≤ 9223372036854775807) = true := decide_eq_true c5
      try have c5b2 : (9223372036854775807 < (t193 ++ (⟨#[32]⟩ : ByteArray)).size + t194.size) = False := eq_false (Nat.not_lt.2 c5)
      have c5z := c5
      try simp only [ByteArray.size_append, show (⟨#[32]⟩ : ByteArray).size = 1 from rfl] at c5z
      try have c5b3 := eq_false (Nat.not_lt.2 c5z)
      try have c5b4 := eq_true c5z
      obtain rfl := Option.some.inj H
      go_enter Tryz.func77, Tryz.ntmps77
      try go_wp2_with (first | ((with_reducible refine gate_dst (N := 1) rfl ?_); refine box_event ?hg (N := 1) ?hd (cs := #[.int .i64 a0_0, .int .i64 a0_1]) (t := 28) ?hr ?_; (case hd => rfl); (case hg => rfl); (case hr => first | (go_simp; done) | (go_simp; rfl)); intro gb192 hg w6 hbox hb; have BK192 := Aside0.mk (hbox); have GW192 := Aside0.mk ((by rw [hg]; exact (below_size (b0 HB.out)) : w.heap.size ≤ gb192)); have GE192 := Aside0.mk ((by rw [hg]; exact (below_size (b0 HB.out)) : w.heap.size ≤ gb192)); replace HB := Aside0.mk (below_step (b0 HB.out) hb); clear hb hbox hg))
      replace BK192 := Aside0.mk (blk_drew BK192.out)
      replace HB := Aside0.mk (below_drew1 HB.out)
      refine start_ (n := 9) (S := fun w' => w'.cell? ⟨gb192, 0, none⟩ = some (.int .i64 a0_0) ∧ w'.cell? ⟨gb192, 1, none⟩ = some (.int .i64 a0_1)) (ds := []) #[false, false, false, false, false, false, false, false, false] (by kernel_rfl) rfl rfl ⟨(blk_cell BK192.out 0).trans rfl, (blk_cell BK192.out 1).trans rfl⟩ (fun hHeld => ?_); refine with_tabW impl_pointText.tab1 impl_pointText.bits1 (fun HT_ HW_ => ?_)
      generalize w6.drew = w7 at BK192 HB hHeld ⊢
      refine pA 0 (some 3) HT_ ?_
      refine pA 4 (some 7) HT_ ?_
      refine tA 1 (some 4) HT_ HW_ hHeld ?_
      refine tA 5 (some 8) HT_ HW_ hHeld ?_
      refine oA 2 (some 5) HT_ fun K hK => ?_
      refine gs Tryz.func139 #[.int .i64 a0_0] rfl ?_
      with_reducible refine (impl_degreesText.calls k a0_0 t193 _ (okd_ hO_ (bq HB.out (.c GE192.out .n))) A2.out).mono ?_
      rintro e w8 ⟨rfl, hb⟩
      refine ⟨_, rfl, ?_⟩
      replace BK192 := Aside0.mk (blk_below (h0 BK192.out) hb)
      replace HB := Aside0.mk (below_step (bq HB.out (.c GE192.out .n)) hb)
      (try clear hb)
      (try clear hb2)
      (try clear hk)
      (try clear hi)
      refine hK.out _ _ ⟨(blk_cell BK192.out 0).trans rfl, (blk_cell BK192.out 1).trans rfl⟩ (fun hHeld => ?_)
      clear hK K
      refine nA (some 5) ?_
      refine pA 3 (some 6) HT_ ?_
      refine oA 6 (some 9) HT_ fun K hK => ?_
      refine gs Tryz.func139 #[.int .i64 a0_1] rfl ?_
      with_reducible refine (impl_degreesText.calls k a0_1 t194 _ (okd_ hO_ (bq HB.out (.c GE192.out .n))) A4.out).mono ?_
      rintro e w9 ⟨rfl, hb⟩
      refine ⟨_, rfl, ?_⟩
      replace BK192 := Aside0.mk (blk_below (h0 BK192.out) hb)
      replace HB := Aside0.mk (below_step (bq HB.out (.c GE192.out .n)) hb)
      (try clear hb)
      (try clear hb2)
      (try clear hk)
      (try clear hi)
      refine hK.out _ _ ⟨(blk_cell BK192.out 0).trans rfl, (blk_cell BK192.out 1).trans rfl⟩ (fun hHeld => ?_)
      clear hK K
      refine nA (some 9) ?_
      refine pA 7 (some 10) HT_ ?_
      refine pA 8 (some 2) HT_ ?_
      refine done_ (done_of HT_.out (by kernel_rfl)) ?_
      try go_wp2
      go_ret
      exact ⟨by first | rfl | (simp [errW_none, errW_some] <;> rfl) | (simp [*, errW_none, errW_some] <;> rfl), bq HB.out (.c GE192.out .n)⟩
    · rw [if_neg c5] at H
      exact absurd H (by simp)
  · rw [if_neg c3] at H
    exact absurd H (by simp)
def impl_PointText.f (k : Nat) (a0_0 : Int) (a0_1 : Int) : Option (ByteArray) := (impl_ValidPoint.f a0_0 a0_1).bind fun t196 => (if t196 = true then ((impl_pointText.f k a0_0 a0_1).bind fun t197 => (some t197)) else (some (⟨#[]⟩ : ByteArray)))
theorem impl_PointText.mono : ∀ a0 a1 k, LeO (impl_PointText.f k a0 a1) (impl_PointText.f (k + 1) a0 a1) := by
  intro a0 a1 k
  unfold impl_PointText.f
  repeat' first
      | (with_reducible exact impl_pointText.mono _ _ _)
      | (with_reducible exact LeO.refl _)
      | (with_reducible exact LeO.none _)
      | (with_reducible refine LeO.ite ?_ ?_)
      | (with_reducible refine LeO.bind ?_ (fun _ => ?_))
      | exact impl_pointText.mono _ _ _
      | exact LeO.none _
      | refine LeO.ite ?_ ?_
      | refine LeO.bind ?_ (fun _ => ?_)
set_option maxHeartbeats 8000000 in
set_option maxRecDepth 100000 in
theorem impl_PointText.calls {b_ : Bool} (k : Nat) (a0_0 : Int) (a0_1 : Int) (r : ByteArray) (w : World) (hO_ : Ok_ b_ w) (h : impl_PointText.f k a0_0 a0_1 = some r) :
    Calls Tryz.prog 23 #[.agg #[.int .i64 a0_0, .int .i64 a0_1]] w fun e w' => e = .returned (.string r) ∧ Below w.heap.size w w' := by
  have hu28 := Tryz.underlying28
  have HB := Aside0.mk (Below.refl w.heap.size w)
  have H : ((impl_ValidPoint.f a0_0 a0_1).bind fun t196 => (if t196 = true then ((impl_pointText.f k a0_0 a0_1).bind fun t197 => (some t197)) else (some (⟨#[]⟩ : ByteArray)))) = some r := h
  clear h
  replace H := Option.bind_eq_some_iff.mp H
  obtain ⟨t196, A20, H⟩ := H
  replace H : (if t196 = true then ((impl_pointText.f k a0_0 a0_1).bind fun t197 => (some t197)) else (some (⟨#[]⟩ : ByteArray))) = some r := H
  have A2 := Aside0.mk A20
  clear A20
  by_cases c3 : t196 = true
  · subst c3
    have H1 : ((impl_pointText.f k a0_0 a0_1).bind fun t197 => (some t197)) = some r := by rw [if_pos rfl] at H; exact H
    clear H
    have H := H1
    clear H1
    replace H := Option.bind_eq_some_iff.mp H
    obtain ⟨t197, A40, H⟩ := H
    replace H : (some t197) = some r := H
    have A4 := Aside0.mk A40
    clear A40
    obtain rfl := Option.some.inj H
    go_enter Tryz.func23, Tryz.ntmps23
    go_wp2_with (first | ((with_reducible refine gate_dst (N := 1) rfl ?_); refine box_event ?hg (N := 1) ?hd (cs := #[.int .i64 a0_0, .int .i64 a0_1]) (t := 28) ?hr ?_; (case hd => rfl); (case hg => rfl); (case hr => first | (go_simp; done) | (go_simp; rfl)); intro gb195 hg w5 hbox hb; have BK195 := Aside0.mk (hbox); have GW195 := Aside0.mk ((by rw [hg]; exact (below_size (b0 HB.out)) : w.heap.size ≤ gb195)); have GE195 := Aside0.mk ((by rw [hg]; exact (below_size (b0 HB.out)) : w.heap.size ≤ gb195)); replace HB := Aside0.mk (below_step (b0 HB.out) hb); clear hb hbox hg; have hcz6_0 : w5.cell? ⟨gb195, 0, none⟩ = some (.int .i64 a0_0) := (blk_cell BK195.out 0).trans rfl; have hcz6_1 : w5.cell? ⟨gb195, 1, none⟩ = some (.int .i64 a0_1) := (blk_cell BK195.out 1).trans rfl; have hfz6_0 := blk_frozen BK195.out 0; have hfz6_1 := blk_frozen BK195.out 1) | ((with_reducible refine gate_callee (f := 76) rfl ?_); refine goesL_ (some 4) rfl rfl Tryz.func76 (by kernel_rfl) rfl #[.agg #[.int .i64 a0_0, .int .i64 a0_1]] rfl (by (try simp only [List.map_toArray, List.map_cons, List.map_nil]); first | done | rfl | (simp only [List.length_drop, List.length_take]; rfl)) ?_; (with_reducible refine (impl_ValidPoint.calls a0_0 a0_1 true _ A2.out).mono ?_); rintro e w7 ⟨rfl, hb⟩; refine ⟨_, rfl, ?_⟩; replace BK195 := Aside0.mk (blk_below (h0 BK195.out) hb); replace HB := Aside0.mk (below_step (bq HB.out (.c GE195.out .n)) hb); (try clear hb); (try clear hb2); (try clear hk); (try clear hi); have hcz8_0 : w7.cell? ⟨gb195, 0, none⟩ = some (.int .i64 a0_0) := (blk_cell BK195.out 0).trans rfl; have hcz8_1 : w7.cell? ⟨gb195, 1, none⟩ = some (.int .i64 a0_1) := (blk_cell BK195.out 1).trans rfl; have hfz8_0 := blk_frozen BK195.out 0; have hfz8_1 := blk_frozen BK195.out 1) | ((with_reducible refine gate_callee (f := 77) rfl ?_); refine goesL_ (some 7) rfl rfl Tryz.func77 (by kernel_rfl) rfl #[.agg #[.int .i64 a0_0, .int .i64 a0_1]] rfl (by (try simp only [List.map_toArray, List.map_cons, List.map_nil]); first | done | rfl | (simp only [List.length_drop, List.length_take]; rfl)) ?_; (with_reducible refine (impl_pointText.calls k a0_0 a0_1 t197 _ (okd_ hO_ (bq HB.out (.c GE195.out .n))) A4.out).mono ?_); rintro e w9 ⟨rfl, hb⟩; refine ⟨_, rfl, ?_⟩; replace BK195 := Aside0.mk (blk_below (h0 BK195.out) hb); replace HB := Aside0.mk (below_step (bq HB.out (.c GE195.out .n)) hb); (try clear hb); (try clear hb2); (try clear hk); (try clear hi)))
    go_ret
    exact ⟨by first | rfl | (simp [errW_none, errW_some] <;> rfl) | (simp [*, errW_none, errW_some] <;> rfl), bq HB.out (.c GE195.out .n)⟩
  · replace c3 := Bool.eq_false_iff.mpr c3
    subst c3
    have H1 : (some (⟨#[]⟩ : ByteArray)) = some r := by rw [if_neg (show ¬ (false = true) by decide)] at H; exact H
    clear H
    have H := H1
    clear H1
    obtain rfl := Option.some.inj H
    go_enter Tryz.func23, Tryz.ntmps23
    go_wp2_with (first | ((with_reducible refine gate_dst (N := 1) rfl ?_); refine box_event ?hg (N := 1) ?hd (cs := #[.int .i64 a0_0, .int .i64 a0_1]) (t := 28) ?hr ?_; (case hd => rfl); (case hg => rfl); (case hr => first | (go_simp; done) | (go_simp; rfl)); intro gb195 hg w10 hbox hb; have BK195 := Aside0.mk (hbox); have GW195 := Aside0.mk ((by rw [hg]; exact (below_size (b0 HB.out)) : w.heap.size ≤ gb195)); have GE195 := Aside0.mk ((by rw [hg]; exact (below_size (b0 HB.out)) : w.heap.size ≤ gb195)); replace HB := Aside0.mk (below_step (b0 HB.out) hb); clear hb hbox hg; have hcz11_0 : w10.cell? ⟨gb195, 0, none⟩ = some (.int .i64 a0_0) := (blk_cell BK195.out 0).trans rfl; have hcz11_1 : w10.cell? ⟨gb195, 1, none⟩ = some (.int .i64 a0_1) := (blk_cell BK195.out 1).trans rfl; have hfz11_0 := blk_frozen BK195.out 0; have hfz11_1 := blk_frozen BK195.out 1) | ((with_reducible refine gate_callee (f := 76) rfl ?_); refine goesL_ (some 4) rfl rfl Tryz.func76 (by kernel_rfl) rfl #[.agg #[.int .i64 a0_0, .int .i64 a0_1]] rfl (by (try simp only [List.map_toArray, List.map_cons, List.map_nil]); first | done | rfl | (simp only [List.length_drop, List.length_take]; rfl)) ?_; (with_reducible refine (impl_ValidPoint.calls a0_0 a0_1 false _ A2.out).mono ?_); rintro e w12 ⟨rfl, hb⟩; refine ⟨_, rfl, ?_⟩; replace BK195 := Aside0.mk (blk_below (h0 BK195.out) hb); replace HB := Aside0.mk (below_step (bq HB.out (.c GE195.out .n)) hb); (try clear hb); (try clear hb2); (try clear hk); (try clear hi)))
    go_ret
    exact ⟨by first | rfl | (simp [errW_none, errW_some] <;> rfl) | (simp [*, errW_none, errW_some] <;> rfl), bq HB.out (.c GE195.out .n)⟩
def impl_abs.f (a0 : Int) : Option (Int) := some (mx a0 (wrap64 (-a0)))
set_option maxHeartbeats 8000000 in
set_option maxRecDepth 100000 in
theorem impl_abs.calls (a0 : Int) (r : Int) (w : World) (h : impl_abs.f a0 = some r) :
    Calls Tryz.prog 140 #[.int .i64 a0] w fun e w' => e = .returned (.int .i64 r) ∧ Below w.heap.size w w' := by
  have HB := Aside0.mk (Below.refl w.heap.size w)
  have H : (some (mx a0 (wrap64 (-a0)))) = some r := h
  clear h
  obtain ⟨ji2, hji2⟩ : ∃ j_ : Int, (mx a0 (wrap64 (-a0))) = j_ := ⟨_, rfl⟩
  replace H : (some ji2) = some r := by first | (rw [hji2] at H; exact H) | (simp only [hji2] at H ⊢; exact H)
  have hji2_ : (if a0 < (wrap64 (-a0)) then (wrap64 (-a0)) else a0) = ji2 := hji2
  obtain rfl := Option.some.inj H
  go_enter Tryz.func140, Tryz.ntmps140
  go_wp2
  go_ret
  exact ⟨by first | rfl | (simp [errW_none, errW_some] <;> rfl) | (simp only [← hji2]; first | rfl | (simp [errW_none, errW_some] <;> rfl)) | (simp [*, errW_none, errW_some] <;> rfl), b0 HB.out⟩
def impl_padded.f (a0 : Int) (a1 : Int) : Option (ByteArray) := (impl_Decimal.f a0).bind fun t198 => ((strings_Repeat.f (⟨#[48]⟩ : ByteArray) (mx (wrap64 (a1 - (t198.size : Int))) 0)).bind fun t199 => (if t199.size + t198.size ≤ 9223372036854775807 then (some (t199 ++ t198)) else (none)))
set_option maxHeartbeats 8000000 in
set_option maxRecDepth 100000 in
theorem impl_padded.calls {b_ : Bool} (a0 : Int) (a1 : Int) (r : ByteArray) (w : World) (hO_ : Ok_ b_ w) (h : impl_padded.f a0 a1 = some r) :
    Calls Tryz.prog 142 #[.int .i64 a0, .int .i64 a1] w fun e w' => e = .returned (.string r) ∧ Below w.heap.size w w' := by
  have HB := Aside0.mk (Below.refl w.heap.size w)
  have H : ((impl_Decimal.f a0).bind fun t198 => ((strings_Repeat.f (⟨#[48]⟩ : ByteArray) (mx (wrap64 (a1 - (t198.size : Int))) 0)).bind fun t199 => (if t199.size + t198.size ≤ 9223372036854775807 then (some (t199 ++ t198)) else (none)))) = some r := h
  clear h
  replace H := Option.bind_eq_some_iff.mp H
  obtain ⟨t198, A30, H⟩ := H
  replace H : ((strings_Repeat.f (⟨#[48]⟩ : ByteArray) (mx (wrap64 (a1 - (t198.size : Int))) 0)).bind fun t199 => (if t199.size + t198.size ≤ 9223372036854775807 then (some (t199 ++ t198)) else (none))) = some r := H
  have A3 := Aside0.mk A30
  clear A30
  obtain ⟨ji4, hji4⟩ : ∃ j_ : Int, (mx (wrap64 (a1 - (t198.size : Int))) 0) = j_ := ⟨_, rfl⟩
  replace H : ((strings_Repeat.f (⟨#[48]⟩ : ByteArray) (ji4)).bind fun t199 => (if t199.size + t198.size ≤ 9223372036854775807 then (some (t199 ++ t198)) else (none))) = some r := by first | (rw [hji4] at H; exact H) | (simp only [hji4] at H ⊢; exact H)
  (try rw [hji4] at A3)
  (try (have hji4l : 0 ≤ ji4 := by (rw [← hji4]; unfold mx; (repeat' split) <;> omega)))
  (try (have hji4m : 0 ≤ ji4 := by omega))
  have hji4_ : (if (wrap64 (a1 - (t198.size : Int))) < 0 then 0 else (wrap64 (a1 - (t198.size : Int)))) = ji4 := hji4
  replace H := Option.bind_eq_some_iff.mp H
  obtain ⟨t199, A50, H⟩ := H
  replace H : (if t199.size + t198.size ≤ 9223372036854775807 then (some (t199 ++ t198)) else (none)) = some r := H
  have A5 := Aside0.mk A50
  clear A50
  by_cases c6 : t199.size + t198.size ≤ 9223372036854775807
  · rw [if_pos c6] at H
    have c6b0 := eq_true c6
    have c6b1 : decide (t199.size + t198.size ≤ 9223372036854775807) = true := decide_eq_true c6
    try have c6b2 : (9223372036854775807 < t199.size + t198.size) = False := eq_false (Nat.not_lt.2 c6)
    obtain rfl := Option.some.inj H
    go_enter Tryz.func142, Tryz.ntmps142
    go_wp2_with (first | ((with_reducible refine gate_callee (f := 141) rfl ?_); refine goesL_ (some 7) rfl rfl Tryz.func141 (by kernel_rfl) rfl #[.int .i64 a0] rfl (by (try simp only [List.map_toArray, List.map_cons, List.map_nil]); first | done | rfl | (simp only [List.length_drop, List.length_take]; rfl)) ?_; (with_reducible refine (impl_Decimal.calls a0 t198 _ (okd_ hO_ (b0 HB.out)) A3.out).mono ?_); rintro e w7 ⟨rfl, hb⟩; refine ⟨_, rfl, ?_⟩; replace HB := Aside0.mk (below_step (b0 HB.out) hb); (try clear hb); (try clear hb2); (try clear hk); (try clear hi)) | ((with_reducible refine gate_callee (f := 198) rfl ?_); refine goesL_ (some 13) rfl rfl Tryz.func198 (by kernel_rfl) rfl #[.string (⟨#[48]⟩ : ByteArray), .int .i64 ji4] rfl (by (try simp only [List.map_toArray, List.map_cons, List.map_nil]); first | done | (simp only [hji4]; rfl) | rfl | (simp only [List.length_drop, List.length_take]; rfl)) ?_; (with_reducible refine (strings_Repeat.calls (⟨#[48]⟩ : ByteArray) ji4 t199 _ (okd_ hO_ (b0 HB.out)) A5.out).mono ?_); rintro e w8 ⟨rfl, hb⟩; refine ⟨_, rfl, ?_⟩; replace HB := Aside0.mk (below_step (b0 HB.out) hb); (try clear hb); (try clear hb2); (try clear hk); (try clear hi)))
    go_ret
    exact ⟨by first | rfl | (simp [errW_none, errW_some] <;> rfl) | (simp only [← hji4]; first | rfl | (simp [errW_none, errW_some] <;> rfl)) | (simp [*, errW_none, errW_some] <;> rfl), b0 HB.out⟩
  · rw [if_neg c6] at H
    exact absurd H (by simp)
def impl_angleText.j0 : Nat → Int → ByteArray → Option (ByteArray)
  | 0, _, _ => none
  | k + 1, x0, x3 => (impl_abs.f x0).bind fun t200 => ((impl_abs.f x0).bind fun t201 => ((impl_Decimal.f (wrap64 (Int.tdiv t200 10000000))).bind fun t202 => (if x3.size + t202.size ≤ 9223372036854775807 then (if (x3 ++ t202).size + 1 ≤ 9223372036854775807 then ((impl_padded.f (wrap64 (Int.tdiv (wrap64 ((Int.tmod t201 10000000) * 36)) 6000000)) 2).bind fun t203 => (if ((x3 ++ t202) ++ (⟨#[100]⟩ : ByteArray)).size + t203.size ≤ 9223372036854775807 then (if (((x3 ++ t202) ++ (⟨#[100]⟩ : ByteArray)) ++ t203).size + 1 ≤ 9223372036854775807 then ((impl_padded.f (wrap64 (Int.tdiv (Int.tmod (wrap64 ((Int.tmod t201 10000000) * 36)) 6000000) 100000)) 2).bind fun t204 => (if ((((x3 ++ t202) ++ (⟨#[100]⟩ : ByteArray)) ++ t203) ++ (⟨#[109]⟩ : ByteArray)).size + t204.size ≤ 9223372036854775807 then (if (((((x3 ++ t202) ++ (⟨#[100]⟩ : ByteArray)) ++ t203) ++ (⟨#[109]⟩ : ByteArray)) ++ t204).size + 1 ≤ 9223372036854775807 then ((impl_padded.f (Int.tmod (Int.tmod (wrap64 ((Int.tmod t201 10000000) * 36)) 6000000) 100000) 5).bind fun t205 => (if ((((((x3 ++ t202) ++ (⟨#[100]⟩ : ByteArray)) ++ t203) ++ (⟨#[109]⟩ : ByteArray)) ++ t204) ++ (⟨#[46]⟩ : ByteArray)).size + t205.size ≤ 9223372036854775807 then (if (((((((x3 ++ t202) ++ (⟨#[100]⟩ : ByteArray)) ++ t203) ++ (⟨#[109]⟩ : ByteArray)) ++ t204) ++ (⟨#[46]⟩ : ByteArray)) ++ t205).size + 1 ≤ 9223372036854775807 then (some ((((((((x3 ++ t202) ++ (⟨#[100]⟩ : ByteArray)) ++ t203) ++ (⟨#[109]⟩ : ByteArray)) ++ t204) ++ (⟨#[46]⟩ : ByteArray)) ++ t205) ++ (⟨#[115]⟩ : ByteArray))) else (none)) else (none))) else (none)) else (none))) else (none)) else (none))) else (none)) else (none))))
def impl_angleText.f (k : Nat) (a0 : Int) : Option (ByteArray) := if a0 < 0 then (impl_angleText.j0 k a0 (⟨#[45]⟩ : ByteArray)) else (impl_angleText.j0 k a0 (⟨#[]⟩ : ByteArray))
theorem impl_angleText.mono_l : ∀ k, (∀ y0 y1, LeO (impl_angleText.j0 k y0 y1) (impl_angleText.j0 (k + 1) y0 y1))
  | 0 => fun _ _ r h => by simp [impl_angleText.j0] at h
  | k + 1 => by
    have ih0 := impl_angleText.mono_l k
    · intro y0 y1
      unfold impl_angleText.j0
      repeat' first
      | (with_reducible exact ih0 _ _)
      | (with_reducible exact LeO.refl _)
      | (with_reducible exact LeO.none _)
      | (with_reducible refine LeO.ite ?_ ?_)
      | (with_reducible refine LeO.bind ?_ (fun _ => ?_))
      | exact ih0 _ _
      | exact LeO.none _
      | refine LeO.ite ?_ ?_
      | refine LeO.bind ?_ (fun _ => ?_)
theorem impl_angleText.mono : ∀ a0 k, LeO (impl_angleText.f k a0) (impl_angleText.f (k + 1) a0) := by
  intro a0 k
  have ih0 := impl_angleText.mono_l k
  unfold impl_angleText.f
  repeat' first
      | (with_reducible exact ih0 _ _)
      | (with_reducible exact LeO.refl _)
      | (with_reducible exact LeO.none _)
      | (with_reducible refine LeO.ite ?_ ?_)
      | (with_reducible refine LeO.bind ?_ (fun _ => ?_))
      | exact ih0 _ _
      | exact LeO.none _
      | refine LeO.ite ?_ ?_
      | refine LeO.bind ?_ (fun _ => ?_)
set_option maxHeartbeats 8000000 in
set_option maxRecDepth 100000 in
theorem impl_angleText.calls {b_ : Bool} (k : Nat) (a0 : Int) (r : ByteArray) (w : World) (hO_ : Ok_ b_ w) (h : impl_angleText.f k a0 = some r) :
    Calls Tryz.prog 79 #[.int .i64 a0] w fun e w' => e = .returned (.string r) ∧ Below w.heap.size w w' := by
  have HB := Aside0.mk (Below.refl w.heap.size w)
  have H : (if a0 < 0 then (impl_angleText.j0 k a0 (⟨#[45]⟩ : ByteArray)) else (impl_angleText.j0 k a0 (⟨#[]⟩ : ByteArray))) = some r := h
  clear h
  have HC2 := Aside0.mk H
  clear H
  go_enter Tryz.func79, Tryz.ntmps79
  go_upto_if 9 with (fail)
  go_cut [3] (fun v3 wc => ∃ (kq : Nat) (x3_1 : ByteArray), v3 = .string x3_1 ∧ Aside0 (impl_angleText.j0 kq a0 x3_1 = some r) ∧ Aside0 (kq ≤ k) ∧ Aside0 (Below w.heap.size w wc))
  case first =>
    have H := HC2.out
    clear HC2
    by_cases c3 : a0 < 0
    · rw [if_pos c3] at H
      have c3b0 : decide (a0 < 0) = true := decide_eq_true c3
      clear c3
      (first | rw [c3b0] | (simp only [i64_w, i32_w]; rw [c3b0]) | skip)
      have H' := Aside0.mk H
      clear H
      go_wp2
      go_meet
      case rel => exact ⟨_, ((⟨#[45]⟩ : ByteArray)), er, H', ⟨by first | omega | exact Nat.le_refl _⟩, ⟨b0 HB.out⟩⟩
    · rw [if_neg c3] at H
      have c3b0 : decide (a0 < 0) = false := decide_eq_false c3
      clear c3
      (first | rw [c3b0] | (simp only [i64_w, i32_w]; rw [c3b0]) | skip)
      have H' := Aside0.mk H
      clear H
      go_wp2
      go_meet
      case rel => exact ⟨_, ((⟨#[]⟩ : ByteArray)), er, H', ⟨by first | omega | exact Nat.le_refl _⟩, ⟨b0 HB.out⟩⟩
  case rest =>
    clear HC2
    try clear p2
    try clear c3
    try clear c3b0
    obtain ⟨kq, x3_1, rfl, HA, HJ1, HB⟩ := hcut
    cases kq with
    | zero => exact absurd HA.out (by simp [impl_angleText.j0])
    | succ kj1 =>
      have H := HA.out
      clear HA
      simp only [impl_angleText.j0] at H
      replace H := Option.bind_eq_some_iff.mp H
      obtain ⟨t200, A40, H⟩ := H
      replace H : ((impl_abs.f a0).bind fun t201 => ((impl_Decimal.f (wrap64 (Int.tdiv t200 10000000))).bind fun t202 => (if x3_1.size + t202.size ≤ 9223372036854775807 then (if (x3_1 ++ t202).size + 1 ≤ 9223372036854775807 then ((impl_padded.f (wrap64 (Int.tdiv (wrap64 ((Int.tmod t201 10000000) * 36)) 6000000)) 2).bind fun t203 => (if ((x3_1 ++ t202) ++ (⟨#[100]⟩ : ByteArray)).size + t203.size ≤ 9223372036854775807 then (if (((x3_1 ++ t202) ++ (⟨#[100]⟩ : ByteArray)) ++ t203).size + 1 ≤ 9223372036854775807 then ((impl_padded.f (wrap64 (Int.tdiv (Int.tmod (wrap64 ((Int.tmod t201 10000000) * 36)) 6000000) 100000)) 2).bind fun t204 => (if ((((x3_1 ++ t202) ++ (⟨#[100]⟩ : ByteArray)) ++ t203) ++ (⟨#[109]⟩ : ByteArray)).size + t204.size ≤ 9223372036854775807 then (if (((((x3_1 ++ t202) ++ (⟨#[100]⟩ : ByteArray)) ++ t203) ++ (⟨#[109]⟩ : ByteArray)) ++ t204).size + 1 ≤ 9223372036854775807 then ((impl_padded.f (Int.tmod (Int.tmod (wrap64 ((Int.tmod t201 10000000) * 36)) 6000000) 100000) 5).bind fun t205 => (if ((((((x3_1 ++ t202) ++ (⟨#[100]⟩ : ByteArray)) ++ t203) ++ (⟨#[109]⟩ : ByteArray)) ++ t204) ++ (⟨#[46]⟩ : ByteArray)).size + t205.size ≤ 9223372036854775807 then (if (((((((x3_1 ++ t202) ++ (⟨#[100]⟩ : ByteArray)) ++ t203) ++ (⟨#[109]⟩ : ByteArray)) ++ t204) ++ (⟨#[46]⟩ : ByteArray)) ++ t205).size + 1 ≤ 9223372036854775807 then (some ((((((((x3_1 ++ t202) ++ (⟨#[100]⟩ : ByteArray)) ++ t203) ++ (⟨#[109]⟩ : ByteArray)) ++ t204) ++ (⟨#[46]⟩ : ByteArray)) ++ t205) ++ (⟨#[115]⟩ : ByteArray))) else (none)) else (none))) else (none)) else (none))) else (none)) else (none))) else (none)) else (none)))) = some r := H
      have A4 := Aside0.mk A40
      clear A40
      replace H := Option.bind_eq_some_iff.mp H
      obtain ⟨t201, A50, H⟩ := H
      replace H : ((impl_Decimal.f (wrap64 (Int.tdiv t200 10000000))).bind fun t202 => (if x3_1.size + t202.size ≤ 9223372036854775807 then (if (x3_1 ++ t202).size + 1 ≤ 9223372036854775807 then ((impl_padded.f (wrap64 (Int.tdiv (wrap64 ((Int.tmod t201 10000000) * 36)) 6000000)) 2).bind fun t203 => (if ((x3_1 ++ t202) ++ (⟨#[100]⟩ : ByteArray)).size + t203.size ≤ 9223372036854775807 then (if (((x3_1 ++ t202) ++ (⟨#[100]⟩ : ByteArray)) ++ t203).size + 1 ≤ 9223372036854775807 then ((impl_padded.f (wrap64 (Int.tdiv (Int.tmod (wrap64 ((Int.tmod t201 10000000) * 36)) 6000000) 100000)) 2).bind fun t204 => (if ((((x3_1 ++ t202) ++ (⟨#[100]⟩ : ByteArray)) ++ t203) ++ (⟨#[109]⟩ : ByteArray)).size + t204.size ≤ 9223372036854775807 then (if (((((x3_1 ++ t202) ++ (⟨#[100]⟩ : ByteArray)) ++ t203) ++ (⟨#[109]⟩ : ByteArray)) ++ t204).size + 1 ≤ 9223372036854775807 then ((impl_padded.f (Int.tmod (Int.tmod (wrap64 ((Int.tmod t201 10000000) * 36)) 6000000) 100000) 5).bind fun t205 => (if ((((((x3_1 ++ t202) ++ (⟨#[100]⟩ : ByteArray)) ++ t203) ++ (⟨#[109]⟩ : ByteArray)) ++ t204) ++ (⟨#[46]⟩ : ByteArray)).size + t205.size ≤ 9223372036854775807 then (if (((((((x3_1 ++ t202) ++ (⟨#[100]⟩ : ByteArray)) ++ t203) ++ (⟨#[109]⟩ : ByteArray)) ++ t204) ++ (⟨#[46]⟩ : ByteArray)) ++ t205).size + 1 ≤ 9223372036854775807 then (some ((((((((x3_1 ++ t202) ++ (⟨#[100]⟩ : ByteArray)) ++ t203) ++ (⟨#[109]⟩ : ByteArray)) ++ t204) ++ (⟨#[46]⟩ : ByteArray)) ++ t205) ++ (⟨#[115]⟩ : ByteArray))) else (none)) else (none))) else (none)) else (none))) else (none)) else (none))) else (none)) else (none))) = some r := H
      have A5 := Aside0.mk A50
      clear A50
      replace H := Option.bind_eq_some_iff.mp H
      obtain ⟨t202, A60, H⟩ := H
      replace H : (if x3_1.size + t202.size ≤ 9223372036854775807 then (if (x3_1 ++ t202).size + 1 ≤ 9223372036854775807 then ((impl_padded.f (wrap64 (Int.tdiv (wrap64 ((Int.tmod t201 10000000) * 36)) 6000000)) 2).bind fun t203 => (if ((x3_1 ++ t202) ++ (⟨#[100]⟩ : ByteArray)).size + t203.size ≤ 9223372036854775807 then (if (((x3_1 ++ t202) ++ (⟨#[100]⟩ : ByteArray)) ++ t203).size + 1 ≤ 9223372036854775807 then ((impl_padded.f (wrap64 (Int.tdiv (Int.tmod (wrap64 ((Int.tmod t201 10000000) * 36)) 6000000) 100000)) 2).bind fun t204 => (if ((((x3_1 ++ t202) ++ (⟨#[100]⟩ : ByteArray)) ++ t203) ++ (⟨#[109]⟩ : ByteArray)).size + t204.size ≤ 9223372036854775807 then (if (((((x3_1 ++ t202) ++ (⟨#[100]⟩ : ByteArray)) ++ t203) ++ (⟨#[109]⟩ : ByteArray)) ++ t204).size + 1 ≤ 9223372036854775807 then ((impl_padded.f (Int.tmod (Int.tmod (wrap64 ((Int.tmod t201 10000000) * 36)) 6000000) 100000) 5).bind fun t205 => (if ((((((x3_1 ++ t202) ++ (⟨#[100]⟩ : ByteArray)) ++ t203) ++ (⟨#[109]⟩ : ByteArray)) ++ t204) ++ (⟨#[46]⟩ : ByteArray)).size + t205.size ≤ 9223372036854775807 then (if (((((((x3_1 ++ t202) ++ (⟨#[100]⟩ : ByteArray)) ++ t203) ++ (⟨#[109]⟩ : ByteArray)) ++ t204) ++ (⟨#[46]⟩ : ByteArray)) ++ t205).size + 1 ≤ 9223372036854775807 then (some ((((((((x3_1 ++ t202) ++ (⟨#[100]⟩ : ByteArray)) ++ t203) ++ (⟨#[109]⟩ : ByteArray)) ++ t204) ++ (⟨#[46]⟩ : ByteArray)) ++ t205) ++ (⟨#[115]⟩ : ByteArray))) else (none)) else (none))) else (none)) else (none))) else (none)) else (none))) else (none)) else (none)) = some r := H
      have A6 := Aside0.mk A60
      clear A60
      by_cases c7 : x3_1.size + t202.size ≤ 9223372036854775807
      · rw [if_pos c7] at H
        have c7b0 := eq_true c7
        have c7b1 : decide (x3_1.size + t202.size ≤ 9223372036854775807) = true := decide_eq_true c7
        try have c7b2 : (9223372036854775807 < x3_1.size + t202.size) = False := eq_false (Nat.not_lt.2 c7)
        by_cases c8 : (x3_1 ++ t202).size + 1 ≤ 9223372036854775807
        · rw [if_pos c8] at H
          have c8b0 := eq_true c8
          have c8b1 : decide ((x3_1 ++ t202).size + 1 ≤ 9223372036854775807) = true := decide_eq_true c8
          try have c8b2 : (9223372036854775807 < (x3_1 ++ t202).size + 1) = False := eq_false (Nat.not_lt.2 c8)
          have c8z := c8
          try simp only [ByteArray.size_append] at c8z
          try have c8b3 := eq_false (Nat.not_lt.2 c8z)
          try have c8b4 := eq_true c8z
          replace H := Option.bind_eq_some_iff.mp H
          obtain ⟨t203, A90, H⟩ := H
          replace H : (if ((x3_1 ++ t202) ++ (⟨#[100]⟩ : ByteArray)).size + t203.size ≤ 9223372036854775807 then (if (((x3_1 ++ t202) ++ (⟨#[100]⟩ : ByteArray)) ++ t203).size + 1 ≤ 9223372036854775807 then ((impl_padded.f (wrap64 (Int.tdiv (Int.tmod (wrap64 ((Int.tmod t201 10000000) * 36)) 6000000) 100000)) 2).bind fun t204 => (if ((((x3_1 ++ t202) ++ (⟨#[100]⟩ : ByteArray)) ++ t203) ++ (⟨#[109]⟩ : ByteArray)).size + t204.size ≤ 9223372036854775807 then (if (((((x3_1 ++ t202) ++ (⟨#[100]⟩ : ByteArray)) ++ t203) ++ (⟨#[109]⟩ : ByteArray)) ++ t204).size + 1 ≤ 9223372036854775807 then ((impl_padded.f (Int.tmod (Int.tmod (wrap64 ((Int.tmod t201 10000000) * 36)) 6000000) 100000) 5).bind fun t205 => (if ((((((x3_1 ++ t202) ++ (⟨#[100]⟩ : ByteArray)) ++ t203) ++ (⟨#[109]⟩ : ByteArray)) ++ t204) ++ (⟨#[46]⟩ : ByteArray)).size + t205.size ≤ 9223372036854775807 then (if (((((((x3_1 ++ t202) ++ (⟨#[100]⟩ : ByteArray)) ++ t203) ++ (⟨#[109]⟩ : ByteArray)) ++ t204) ++ (⟨#[46]⟩ : ByteArray)) ++ t205).size + 1 ≤ 9223372036854775807 then (some ((((((((x3_1 ++ t202) ++ (⟨#[100]⟩ : ByteArray)) ++ t203) ++ (⟨#[109]⟩ : ByteArray)) ++ t204) ++ (⟨#[46]⟩ : ByteArray)) ++ t205) ++ (⟨#[115]⟩ : ByteArray))) else (none)) else (none))) else (none)) else (none))) else (none)) else (none)) = some r := H
          have A9 := Aside0.mk A90
          clear A90
          by_cases c10 : ((x3_1 ++ t202) ++ (⟨#[100]⟩ : ByteArray)).size + t203.size ≤ 9223372036854775807
          · rw [if_pos c10] at H
            have c10b0 := eq_true c10
            have c10b1 : decide (((x3_1 ++ t202) ++ (⟨#[100]⟩ : ByteArray)).size + t203.size ≤ 9223372036854775807) = true := decide_eq_true c10
            try have c10b2 : (9223372036854775807 < ((x3_1 ++ t202) ++ (⟨#[100]⟩ : ByteArray)).size + t203.size) = False := eq_false (Nat.not_lt.2 c10)
            have c10z := c10
            try simp only [ByteArray.size_append, show (⟨#[100]⟩ : ByteArray).size = 1 from rfl] at c10z
            try have c10b3 := eq_false (Nat.not_lt.2 c10z)
            try have c10b4 := eq_true c10z
            by_cases c11 : (((x3_1 ++ t202) ++ (⟨#[100]⟩ : ByteArray)) ++ t203).size + 1 ≤ 9223372036854775807
            · rw [if_pos c11] at H
              have c11b0 := eq_true c11
              have c11b1 : decide ((((x3_1 ++ t202) ++ (⟨#[100]⟩ : ByteArray)) ++ t203).size + 1 ≤ 9223372036854775807) = true := decide_eq_true c11
              try have c11b2 : (9223372036854775807 < (((x3_1 ++ t202) ++ (⟨#[100]⟩ : ByteArray)) ++ t203).size + 1) = False := eq_false (Nat.not_lt.2 c11)
              have c11z := c11
              try simp only [ByteArray.size_append, show (⟨#[100]⟩ : ByteArray).size = 1 from rfl] at c11z
              try have c11b3 := eq_false (Nat.not_lt.2 c11z)
              try have c11b4 := eq_true c11z
              replace H := Option.bind_eq_some_iff.mp H
              obtain ⟨t204, A120, H⟩ := H
              replace H : (if ((((x3_1 ++ t202) ++ (⟨#[100]⟩ : ByteArray)) ++ t203) ++ (⟨#[109]⟩ : ByteArray)).size + t204.size ≤ 9223372036854775807 then (if (((((x3_1 ++ t202) ++ (⟨#[100]⟩ : ByteArray)) ++ t203) ++ (⟨#[109]⟩ : ByteArray)) ++ t204).size + 1 ≤ 9223372036854775807 then ((impl_padded.f (Int.tmod (Int.tmod (wrap64 ((Int.tmod t201 10000000) * 36)) 6000000) 100000) 5).bind fun t205 => (if ((((((x3_1 ++ t202) ++ (⟨#[100]⟩ : ByteArray)) ++ t203) ++ (⟨#[109]⟩ : ByteArray)) ++ t204) ++ (⟨#[46]⟩ : ByteArray)).size + t205.size ≤ 9223372036854775807 then (if (((((((x3_1 ++ t202) ++ (⟨#[100]⟩ : ByteArray)) ++ t203) ++ (⟨#[109]⟩ : ByteArray)) ++ t204) ++ (⟨#[46]⟩ : ByteArray)) ++ t205).size + 1 ≤ 9223372036854775807 then (some ((((((((x3_1 ++ t202) ++ (⟨#[100]⟩ : ByteArray)) ++ t203) ++ (⟨#[109]⟩ : ByteArray)) ++ t204) ++ (⟨#[46]⟩ : ByteArray)) ++ t205) ++ (⟨#[115]⟩ : ByteArray))) else (none)) else (none))) else (none)) else (none)) = some r := H
              have A12 := Aside0.mk A120
              clear A120
              by_cases c13 : ((((x3_1 ++ t202) ++ (⟨#[100]⟩ : ByteArray)) ++ t203) ++ (⟨#[109]⟩ : ByteArray)).size + t204.size ≤ 9223372036854775807
              · rw [if_pos c13] at H
                have c13b0 := eq_true c13
                have c13b1 : decide (((((x3_1 ++ t202) ++ (⟨#[100]⟩ : ByteArray)) ++ t203) ++ (⟨#[109]⟩ : ByteArray)).size + t204.size ≤ 9223372036854775807) = true := decide_eq_true c13
                try have c13b2 : (9223372036854775807 < ((((x3_1 ++ t202) ++ (⟨#[100]⟩ : ByteArray)) ++ t203) ++ (⟨#[109]⟩ : ByteArray)).size + t204.size) = False := eq_false (Nat.not_lt.2 c13)
                have c13z := c13
                try simp only [ByteArray.size_append, show (⟨#[100]⟩ : ByteArray).size = 1 from rfl, show (⟨#[109]⟩ : ByteArray).size = 1 from rfl] at c13z
                try have c13b3 := eq_false (Nat.not_lt.2 c13z)
                try have c13b4 := eq_true c13z
                by_cases c14 : (((((x3_1 ++ t202) ++ (⟨#[100]⟩ : ByteArray)) ++ t203) ++ (⟨#[109]⟩ : ByteArray)) ++ t204).size + 1 ≤ 9223372036854775807
                · rw [if_pos c14] at H
                  have c14b0 := eq_true c14
                  have c14b1 : decide ((((((x3_1 ++ t202) ++ (⟨#[100]⟩ : ByteArray)) ++ t203) ++ (⟨#[109]⟩ : ByteArray)) ++ t204).size + 1 ≤ 9223372036854775807) = true := decide_eq_true c14
                  try have c14b2 : (9223372036854775807 < (((((x3_1 ++ t202) ++ (⟨#[100]⟩ : ByteArray)) ++ t203) ++ (⟨#[109]⟩ : ByteArray)) ++ t204).size + 1) = False := eq_false (Nat.not_lt.2 c14)
                  have c14z := c14
                  try simp only [ByteArray.size_append, show (⟨#[100]⟩ : ByteArray).size = 1 from rfl, show (⟨#[109]⟩ : ByteArray).size = 1 from rfl] at c14z
                  try have c14b3 := eq_false (Nat.not_lt.2 c14z)
                  try have c14b4 := eq_true c14z
                  replace H := Option.bind_eq_some_iff.mp H
                  obtain ⟨t205, A150, H⟩ := H
                  replace H : (if ((((((x3_1 ++ t202) ++ (⟨#[100]⟩ : ByteArray)) ++ t203) ++ (⟨#[109]⟩ : ByteArray)) ++ t204) ++ (⟨#[46]⟩ : ByteArray)).size + t205.size ≤ 9223372036854775807 then (if (((((((x3_1 ++ t202) ++ (⟨#[100]⟩ : ByteArray)) ++ t203) ++ (⟨#[109]⟩ : ByteArray)) ++ t204) ++ (⟨#[46]⟩ : ByteArray)) ++ t205).size + 1 ≤ 9223372036854775807 then (some ((((((((x3_1 ++ t202) ++ (⟨#[100]⟩ : ByteArray)) ++ t203) ++ (⟨#[109]⟩ : ByteArray)) ++ t204) ++ (⟨#[46]⟩ : ByteArray)) ++ t205) ++ (⟨#[115]⟩ : ByteArray))) else (none)) else (none)) = some r := H
                  have A15 := Aside0.mk A150
                  clear A150
                  by_cases c16 : ((((((x3_1 ++ t202) ++ (⟨#[100]⟩ : ByteArray)) ++ t203) ++ (⟨#[109]⟩ : ByteArray)) ++ t204) ++ (⟨#[46]⟩ : ByteArray)).size + t205.size ≤ 9223372036854775807
                  · rw [if_pos c16] at H
                    have c16b0 := eq_true c16
                    have c16b1 : decide (((((((x3_1 ++ t202) ++ (⟨#[100]⟩ : ByteArray)) ++ t203) ++ (⟨#[109]⟩ : ByteArray)) ++ t204) ++ (⟨#[46]⟩ : ByteArray)).size + t205.size ≤ 9223372036854775807) = true := decide_eq_true c16
                    try have c16b2 : (9223372036854775807 < ((((((x3_1 ++ t202) ++ (⟨#[100]⟩ : ByteArray)) ++ t203) ++ (⟨#[109]⟩ : ByteArray)) ++ t204) ++ (⟨#[46]⟩ : ByteArray)).size + t205.size) = False := eq_false (Nat.not_lt.2 c16)
                    have c16z := c16
                    try simp only [ByteArray.size_append, show (⟨#[100]⟩ : ByteArray).size = 1 from rfl, show (⟨#[109]⟩ : ByteArray).size = 1 from rfl, show (⟨#[46]⟩ : ByteArray).size = 1 from rfl] at c16z
                    try have c16b3 := eq_false (Nat.not_lt.2 c16z)
                    try have c16b4 := eq_true c16z
                    by_cases c17 : (((((((x3_1 ++ t202) ++ (⟨#[100]⟩ : ByteArray)) ++ t203) ++ (⟨#[109]⟩ : ByteArray)) ++ t204) ++ (⟨#[46]⟩ : ByteArray)) ++ t205).size + 1 ≤ 9223372036854775807
                    · rw [if_pos c17] at H
                      have c17b0 := eq_true c17
                      have c17b1 : decide ((((((((x3_1 ++ t202) ++ (⟨#[100]⟩ : ByteArray)) ++ t203) ++ (⟨#[109]⟩ : ByteArray)) ++ t204) ++ (⟨#[46]⟩ : ByteArray)) ++ t205).size + 1 ≤ 9223372036854775807) = true := decide_eq_true c17
                      try have c17b2 : (9223372036854775807 < (((((((x3_1 ++ t202) ++ (⟨#[100]⟩ : ByteArray)) ++ t203) ++ (⟨#[109]⟩ : ByteArray)) ++ t204) ++ (⟨#[46]⟩ : ByteArray)) ++ t205).size + 1) = False := eq_false (Nat.not_lt.2 c17)
                      have c17z := c17
                      try simp only [ByteArray.size_append, show (⟨#[100]⟩ : ByteArray).size = 1 from rfl, show (⟨#[109]⟩ : ByteArray).size = 1 from rfl, show (⟨#[46]⟩ : ByteArray).size = 1 from rfl] at c17z
                      try have c17b3 := eq_false (Nat.not_lt.2 c17z)
                      try have c17b4 := eq_true c17z
                      obtain rfl := Option.some.inj H
                      go_wp2_with (first | ((with_reducible refine gate_callee (f := 140) rfl ?_); refine goesL_ (some 11) rfl rfl Tryz.func140 (by kernel_rfl) rfl #[.int .i64 a0] rfl (by (try simp only [List.map_toArray, List.map_cons, List.map_nil]); first | done | rfl | (simp only [List.length_drop, List.length_take]; rfl)) ?_; (with_reducible refine (impl_abs.calls a0 t200 _ A4.out).mono ?_); rintro e w18 ⟨rfl, hb⟩; refine ⟨_, rfl, ?_⟩; replace HB := Aside0.mk (below_step (b0 HB.out) hb); (try clear hb); (try clear hb2); (try clear hk); (try clear hi)) | ((with_reducible refine gate_callee (f := 140) rfl ?_); refine goesL_ (some 14) rfl rfl Tryz.func140 (by kernel_rfl) rfl #[.int .i64 a0] rfl (by (try simp only [List.map_toArray, List.map_cons, List.map_nil]); first | done | rfl | (simp only [List.length_drop, List.length_take]; rfl)) ?_; (with_reducible refine (impl_abs.calls a0 t201 _ A5.out).mono ?_); rintro e w19 ⟨rfl, hb⟩; refine ⟨_, rfl, ?_⟩; replace HB := Aside0.mk (below_step (b0 HB.out) hb); (try clear hb); (try clear hb2); (try clear hk); (try clear hi)) | ((with_reducible refine gate_callee (f := 141) rfl ?_); refine goesL_ (some 23) rfl rfl Tryz.func141 (by kernel_rfl) rfl #[.int .i64 (wrap64 (Int.tdiv t200 10000000))] rfl (by (try simp only [List.map_toArray, List.map_cons, List.map_nil]); first | done | rfl | (simp only [List.length_drop, List.length_take]; rfl)) ?_; (with_reducible refine (impl_Decimal.calls (wrap64 (Int.tdiv t200 10000000)) t202 _ (okd_ hO_ (b0 HB.out)) A6.out).mono ?_); rintro e w20 ⟨rfl, hb⟩; refine ⟨_, rfl, ?_⟩; replace HB := Aside0.mk (below_step (b0 HB.out) hb); (try clear hb); (try clear hb2); (try clear hk); (try clear hi)) | ((with_reducible refine gate_callee (f := 142) rfl ?_); refine goesL_ (some 27) rfl rfl Tryz.func142 (by kernel_rfl) rfl #[.int .i64 (wrap64 (Int.tdiv (wrap64 ((Int.tmod t201 10000000) * 36)) 6000000)), .int .i64 2] rfl (by (try simp only [List.map_toArray, List.map_cons, List.map_nil]); first | done | rfl | (simp only [List.length_drop, List.length_take]; rfl)) ?_; (with_reducible refine (impl_padded.calls (wrap64 (Int.tdiv (wrap64 ((Int.tmod t201 10000000) * 36)) 6000000)) 2 t203 _ (okd_ hO_ (b0 HB.out)) A9.out).mono ?_); rintro e w21 ⟨rfl, hb⟩; refine ⟨_, rfl, ?_⟩; replace HB := Aside0.mk (below_step (b0 HB.out) hb); (try clear hb); (try clear hb2); (try clear hk); (try clear hi)) | ((with_reducible refine gate_callee (f := 142) rfl ?_); refine goesL_ (some 32) rfl rfl Tryz.func142 (by kernel_rfl) rfl #[.int .i64 (wrap64 (Int.tdiv (Int.tmod (wrap64 ((Int.tmod t201 10000000) * 36)) 6000000) 100000)), .int .i64 2] rfl (by (try simp only [List.map_toArray, List.map_cons, List.map_nil]); first | done | rfl | (simp only [List.length_drop, List.length_take]; rfl)) ?_; (with_reducible refine (impl_padded.calls (wrap64 (Int.tdiv (Int.tmod (wrap64 ((Int.tmod t201 10000000) * 36)) 6000000) 100000)) 2 t204 _ (okd_ hO_ (b0 HB.out)) A12.out).mono ?_); rintro e w22 ⟨rfl, hb⟩; refine ⟨_, rfl, ?_⟩; replace HB := Aside0.mk (below_step (b0 HB.out) hb); (try clear hb); (try clear hb2); (try clear hk); (try clear hi)) | ((with_reducible refine gate_callee (f := 142) rfl ?_); refine goesL_ (some 37) rfl rfl Tryz.func142 (by kernel_rfl) rfl #[.int .i64 (Int.tmod (wrap64 ((Int.tmod t201 10000000) * 36)) 100000), .int .i64 5] rfl (by (try simp only [List.map_toArray, List.map_cons, List.map_nil]); first | done | rfl | (simp only [List.length_drop, List.length_take]; rfl)) ?_; (with_reducible refine (impl_padded.calls (Int.tmod (wrap64 ((Int.tmod t201 10000000) * 36)) 100000) 5 t205 _ (okd_ hO_ (b0 HB.out)) (by have z := A15.out; rw [tt_] at z; exact z)).mono ?_); rintro e w23 ⟨rfl, hb⟩; refine ⟨_, rfl, ?_⟩; replace HB := Aside0.mk (below_step (b0 HB.out) hb); (try clear hb); (try clear hb2); (try clear hk); (try clear hi)))
                      go_ret
                      exact ⟨by first | rfl | (simp [errW_none, errW_some] <;> rfl) | (simp [*, errW_none, errW_some] <;> rfl), b0 HB.out⟩
                    · rw [if_neg c17] at H
                      exact absurd H (by simp)
                  · rw [if_neg c16] at H
                    exact absurd H (by simp)
                · rw [if_neg c14] at H
                  exact absurd H (by simp)
              · rw [if_neg c13] at H
                exact absurd H (by simp)
            · rw [if_neg c11] at H
              exact absurd H (by simp)
          · rw [if_neg c10] at H
            exact absurd H (by simp)
        · rw [if_neg c8] at H
          exact absurd H (by simp)
      · rw [if_neg c7] at H
        exact absurd H (by simp)
def impl_AngleText.f (k : Nat) (a0 : Int) : Option (ByteArray × Int) := (impl_within.f a0 (-1800000000) 1800000000).bind fun t206 => (if t206 = true then ((impl_angleText.f k a0).bind fun t207 => (some (t207, 0))) else (some ((⟨#[]⟩ : ByteArray), 2)))
theorem impl_AngleText.mono : ∀ a0 k, LeO (impl_AngleText.f k a0) (impl_AngleText.f (k + 1) a0) := by
  intro a0 k
  unfold impl_AngleText.f
  repeat' first
      | (with_reducible exact impl_angleText.mono _ _)
      | (with_reducible exact LeO.refl _)
      | (with_reducible exact LeO.none _)
      | (with_reducible refine LeO.ite ?_ ?_)
      | (with_reducible refine LeO.bind ?_ (fun _ => ?_))
      | exact impl_angleText.mono _ _
      | exact LeO.none _
      | refine LeO.ite ?_ ?_
      | refine LeO.bind ?_ (fun _ => ?_)
set_option maxHeartbeats 8000000 in
set_option maxRecDepth 100000 in
theorem impl_AngleText.calls {b_ : Bool} (k : Nat) (a0 : Int) (r1 : ByteArray) (r2 : Int) (w : World) (hO_ : Ok_ b_ w) (h : impl_AngleText.f k a0 = some (r1, r2)) :
    Calls Tryz.prog 24 #[.int .i64 a0] w fun e w' => e = .returned (.tuple #[.string r1, .int .i64 r2]) ∧ Below w.heap.size w w' := by
  have HB := Aside0.mk (Below.refl w.heap.size w)
  have H : ((impl_within.f a0 (-1800000000) 1800000000).bind fun t206 => (if t206 = true then ((impl_angleText.f k a0).bind fun t207 => (some (t207, 0))) else (some ((⟨#[]⟩ : ByteArray), 2)))) = some (r1, r2) := h
  clear h
  replace H := Option.bind_eq_some_iff.mp H
  obtain ⟨t206, A20, H⟩ := H
  replace H : (if t206 = true then ((impl_angleText.f k a0).bind fun t207 => (some (t207, 0))) else (some ((⟨#[]⟩ : ByteArray), 2))) = some (r1, r2) := H
  have A2 := Aside0.mk A20
  clear A20
  by_cases c3 : t206 = true
  · subst c3
    have H1 : ((impl_angleText.f k a0).bind fun t207 => (some (t207, 0))) = some (r1, r2) := by rw [if_pos rfl] at H; exact H
    clear H
    have H := H1
    clear H1
    replace H := Option.bind_eq_some_iff.mp H
    obtain ⟨t207, A40, H⟩ := H
    replace H : (some (t207, 0)) = some (r1, r2) := H
    have A4 := Aside0.mk A40
    clear A40
    simp only [Option.some.injEq, Prod.mk.injEq] at H
    obtain ⟨rfl, rfl⟩ := H
    go_enter Tryz.func24, Tryz.ntmps24
    go_wp2_with (first | ((with_reducible refine gate_callee (f := 78) rfl ?_); refine goesL_ (some 5) rfl rfl Tryz.func78 (by kernel_rfl) rfl #[.int .i64 a0, .int .i64 (-1800000000), .int .i64 1800000000] rfl (by (try simp only [List.map_toArray, List.map_cons, List.map_nil]); first | done | rfl | (simp only [List.length_drop, List.length_take]; rfl)) ?_; (with_reducible refine (impl_within.calls a0 (-1800000000) 1800000000 true _ A2.out).mono ?_); rintro e w' ⟨rfl, ⟨nd, rfl⟩⟩; refine ⟨_, rfl, ?_⟩) | ((with_reducible refine gate_callee (f := 79) rfl ?_); refine goesL_ (some 8) rfl rfl Tryz.func79 (by kernel_rfl) rfl #[.int .i64 a0] rfl (by (try simp only [List.map_toArray, List.map_cons, List.map_nil]); first | done | rfl | (simp only [List.length_drop, List.length_take]; rfl)) ?_; (with_reducible refine (impl_angleText.calls k a0 t207 _ (okd_ hO_ (b0 HB.out)) A4.out).mono ?_); rintro e w5 ⟨rfl, hb⟩; refine ⟨_, rfl, ?_⟩; replace HB := Aside0.mk (below_step (b0 HB.out) hb); (try clear hb); (try clear hb2); (try clear hk); (try clear hi)))
    go_ret2
    exact ⟨by first | rfl | (simp [errW_none, errW_some] <;> rfl) | (simp [*, errW_none, errW_some] <;> rfl), b0 HB.out⟩
  · replace c3 := Bool.eq_false_iff.mpr c3
    subst c3
    have H1 : (some ((⟨#[]⟩ : ByteArray), 2)) = some (r1, r2) := by rw [if_neg (show ¬ (false = true) by decide)] at H; exact H
    clear H
    have H := H1
    clear H1
    simp only [Option.some.injEq, Prod.mk.injEq] at H
    obtain ⟨rfl, rfl⟩ := H
    go_enter Tryz.func24, Tryz.ntmps24
    go_wp2_with (first | ((with_reducible refine gate_callee (f := 78) rfl ?_); refine goesL_ (some 5) rfl rfl Tryz.func78 (by kernel_rfl) rfl #[.int .i64 a0, .int .i64 (-1800000000), .int .i64 1800000000] rfl (by (try simp only [List.map_toArray, List.map_cons, List.map_nil]); first | done | rfl | (simp only [List.length_drop, List.length_take]; rfl)) ?_; (with_reducible refine (impl_within.calls a0 (-1800000000) 1800000000 false _ A2.out).mono ?_); rintro e w' ⟨rfl, ⟨nd, rfl⟩⟩; refine ⟨_, rfl, ?_⟩))
    go_ret2
    exact ⟨by first | rfl | (simp [errW_none, errW_some] <;> rfl) | (simp [*, errW_none, errW_some] <;> rfl), b0 HB.out⟩
end Go.Proofs.YtogpbandlpjccaaGreatDoor.TX
