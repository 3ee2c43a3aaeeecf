/- What the printed functions come to: products of polynomials. -/
import Derived.Test.YtmdicdkceekodaaXM6
set_option linter.unusedVariables false
set_option linter.unusedSimpArgs false
namespace Go.Proofs.Ytmdicdkceekodaa.TX
open Go.RowKit Go.Proofs.YtmdicdkceekodaaW.PrintWords Go.Proofs.YtmdicdkceekodaaW.PrintLast Go.Proofs.YtmdicdkceekodaaW.PrintMore

theorem wrap_small {x : Int} (h0 : -9223372036854775808 ≤ x) (h1 : x ≤ 9223372036854775807) : wrap64 x = x := by unfold wrap64; omega
theorem ev_of_all {α : Type} {g : Nat → Option α} {r : α} (h : ∀ k, g (k + 1) = some r) : Ev g r := Ev.step (f := fun _ => some r) h (Ev.now r)
theorem ev_succ {α : Type} {g : Nat → Option α} {r : α} (K : Nat) (h : ∀ k, K ≤ k → g (k + 1) = some r) : Ev g r := ⟨K + 1, fun k hk => by
  obtain ⟨k, rfl⟩ : ∃ k', k = k' + 1 := ⟨k - 1, by omega⟩
  exact h k (by omega)⟩
theorem rd_at (xs : List S35) (i : Nat) (h : i < xs.length) : rd_T35 xs (i : Int) = xs[i] := by
  unfold rd_T35; simp [List.getD, h]
theorem rd_at32 (xs : List S32) (i : Nat) (h : i < xs.length) : rd_T32 xs (i : Int) = xs[i] := by
  unfold rd_T32; simp [List.getD, h]

/-! ### Intervals -/
def okI (a b : Int) : Bool := decide (-1152921504606846976 < a ∧ a ≤ b ∧ b < 1152921504606846976)
theorem l04Ok_f (a b : Int) : spec_l04Ok.f a b = some (okI a b) := by
  unfold spec_l04Ok.f okI
  by_cases h1 : (-1152921504606846976) < a
  · by_cases h2 : a ≤ b
    · simp [h1, h2]
    · simp [h1, h2]
  · simp [h1]
theorem validI_f (a b : Int) : impl_ValidInterval.f a b = some (okI a b) := l04Ok_f a b
def whole : Int × Int := (-1152921504606846976, 1152921504606846976)
def makeI (a b : Int) : Int × Int := if okI a b = true then (a, b) else whole
def addI (p q : Int × Int) : Int × Int := if okI p.1 p.2 = true then (if okI q.1 q.2 = true then makeI (wrap64 (p.1 + q.1)) (wrap64 (p.2 + q.2)) else whole) else whole
def mulI (p q : Int × Int) : Int × Int := ((Go.G880.impl_MulI ⟨p.1, p.2⟩ ⟨q.1, q.2⟩).lo, (Go.G880.impl_MulI ⟨p.1, p.2⟩ ⟨q.1, q.2⟩).hi)
theorem make_f (a b : Int) : spec_l04Make.f a b = some (makeI a b) := by
  unfold spec_l04Make.f makeI
  rw [l04Ok_f, Option.bind_some]
  split <;> rfl
theorem bounded_f (a b : Int) : impl_bounded.f a b true = some (makeI a b) := by
  unfold impl_bounded.f makeI
  rw [if_pos rfl, validI_f, Option.bind_some]
  split <;> rfl
theorem implAdd_f (a b c d : Int) : impl_AddI.f a b c d = some (addI (a, b) (c, d)) := by
  unfold impl_AddI.f impl_areBounded.f addI
  rw [validI_f, Option.bind_some]
  by_cases h1 : okI a b = true
  · rw [if_pos h1, validI_f, Option.bind_some, Option.bind_some]
    simp only [h1, if_true]
    by_cases h2 : okI c d = true
    · rw [if_pos h2, if_pos h2, bounded_f]; rfl
    · rw [if_neg h2, if_neg h2]; rfl
  · rw [if_neg h1, Option.bind_some]
    simp only [h1]
    rfl
theorem specAdd_f (k : Nat) (a b c d : Int) : spec_AddI.f (k + 1) a b c d = some (addI (a, b) (c, d)) := by
  unfold spec_AddI.f addI
  rw [l04Ok_f, Option.bind_some]
  by_cases h1 : okI a b = true
  · rw [if_pos h1, l04Ok_f, Option.bind_some]
    simp only [h1, if_true, spec_AddI.j0]
    by_cases h2 : okI c d = true
    · rw [h2]; simp only [Bool.not_true, make_f, Option.bind_some, if_true]; rfl
    · have h2' : okI c d = false := by simpa using h2
      rw [h2']; rfl
  · rw [if_neg h1]
    simp only [h1, spec_AddI.j0]
    rfl
theorem specMul_f (a b c d : Int) : spec_MulI.f a b c d = some (mulI (a, b) (c, d)) := rfl
theorem implMul_f (a b c d : Int) : impl_MulI.f a b c d = some (mulI (a, b) (c, d)) := rfl
theorem integer0 : spec_Integer.f 0 = some (0, 0) := by
  unfold spec_Integer.f spec_l00In.f
  rw [if_pos (by omega), decide_eq_true (by omega), Option.bind_some, if_pos rfl, make_f, Option.bind_some]
  have : makeI (wrap64 (0 * 4294967296)) (wrap64 (0 * 4294967296)) = (0, 0) := by
    rw [wrap_small (by omega) (by omega)]
    unfold makeI
    rw [if_pos (by decide)]
    rfl
  rw [this]

/-! ### Lists -/
def conv (x : S32) : S35 := ⟨x.f0, x.f1⟩
theorem toS_loop (l : List S32) (hl : l.length ≤ 1048576) (r : List S35) : ∀ (rest pre : List S32) (acc : List S35), l = pre ++ rest → acc.length = l.length → acc.take pre.length = pre.map conv → r = l.map conv →
    Ev (fun k => laws_toIntervalS.l0 k l acc (pre.length : Nat)) r := by
  intro rest
  induction rest with
  | nil =>
    intro pre acc hp ha ht hr
    rw [List.append_nil] at hp
    subst hp
    refine ev_of_all fun k => ?_
    simp only [laws_toIntervalS.l0]
    rw [if_neg (by omega), hr, ← ht, List.take_of_length_le (by omega)]
  | cons b rest ih =>
    intro pre acc hp ha ht hr
    have hi : pre.length < l.length := by rw [hp]; simp
    have hb : l[pre.length] = b := by simp [hp]
    refine Ev.step (f := fun k => laws_toIntervalS.l0 k l (acc.set pre.length (conv b)) (((pre ++ [b]).length : Nat) : Int)) (fun k => ?_) (ih (pre ++ [b]) _ (by rw [hp]; simp) (by simp [ha]) ?_ hr)
    · simp only [laws_toIntervalS.l0, laws_toInterval.f]
      rw [if_pos (by omega), if_pos (by omega), rd_at32 l _ hi, hb, Option.bind_some, if_pos (by omega), wrap_small (by omega) (by omega)]
      simp only [Int.toNat_natCast, List.length_append, List.length_singleton]
      rfl
    · rw [List.length_append, List.length_singleton, List.map_append, ← ht, List.map_singleton]
      have hacc : pre.length < acc.length := by omega
      rw [List.take_succ_eq_append_getElem (by simp; omega)]
      congr 1
      · rw [List.take_set_of_le (by omega)]
      · simp
theorem toS_ev (l : List S32) (hl : l.length ≤ 1048576) : Ev (fun k => laws_toIntervalS.f k l) (l.map conv) := by
  have h := toS_loop l hl (l.map conv) l [] (List.replicate l.length z35) rfl (by simp) (by simp) rfl
  refine Ev.congr (fun k => ?_) h
  unfold laws_toIntervalS.f
  simp only [Int.toNat_natCast]
  rw [if_pos (by omega), if_pos (by omega)]
  rfl
def okX (x : S35) : Bool := okI x.f0 x.f1
def okL (l : List S35) : Bool := l.all okX && decide (1 ≤ l.length ∧ l.length ≤ 17)
theorem in17 (n : Nat) (hn : n ≤ 2000000) : spec_l00In.f (n : Int) 1 17 = some (decide (1 ≤ n ∧ n ≤ 17)) := by
  unfold spec_l00In.f
  by_cases h : 1 ≤ n
  · rw [if_pos (by omega)]; simp [h]; omega
  · rw [if_neg (by omega)]; simp [h]
theorem l09Ok_loop (l : List S35) (hl : l.length ≤ 2000000) : ∀ (rest pre : List S35), l = pre ++ rest → pre.all okX = true → Ev (fun k => spec_l09Ok.l0 k l (pre.length : Nat)) (okL l) := by
  intro rest
  induction rest with
  | nil =>
    intro pre hp ha
    rw [List.append_nil] at hp
    subst hp
    refine ev_of_all fun k => ?_
    simp only [spec_l09Ok.l0]
    rw [if_neg (by omega), in17 _ hl, Option.bind_some]
    unfold okL
    rw [ha, Bool.true_and]
  | cons b rest ih =>
    intro pre hp ha
    have hi : pre.length < l.length := by rw [hp]; simp
    have hb : l[pre.length] = b := by simp [hp]
    by_cases hok : okX b = true
    · refine Ev.step (f := fun k => spec_l09Ok.l0 k l (((pre ++ [b]).length : Nat) : Int)) (fun k => ?_) (ih (pre ++ [b]) (by rw [hp]; simp) (by rw [List.all_append, ha]; simp [hok]))
      simp only [spec_l09Ok.l0]
      rw [if_pos (by omega), if_pos (by omega), rd_at l _ hi, hb, l04Ok_f, Option.bind_some, if_pos (show okI b.f0 b.f1 = true from hok), wrap_small (by omega) (by omega)]
      simp
    · refine ev_of_all fun k => ?_
      simp only [spec_l09Ok.l0]
      rw [if_pos (by omega), if_pos (by omega), rd_at l _ hi, hb, l04Ok_f, Option.bind_some, if_neg (show ¬ okI b.f0 b.f1 = true from hok)]
      unfold okL
      rw [hp, List.all_append]
      simp [hok]
theorem l09Ok_ev (l : List S35) (hl : l.length ≤ 2000000) : Ev (fun k => spec_l09Ok.f k l) (okL l) := l09Ok_loop l hl l [] rfl rfl
theorem index_loop (l : List S35) (hl : l.length ≤ 2000000) : ∀ (rest pre : List S35), l = pre ++ rest → pre.all okX = true → ∃ r : Int, Ev (fun k => impl_Interval_60.l0 k l (l.length : Nat) (pre.length : Nat)) r ∧ decide (r ≥ 0) = !(l.all okX) := by
  intro rest
  induction rest with
  | nil =>
    intro pre hp ha
    rw [List.append_nil] at hp
    subst hp
    refine ⟨-1, ev_of_all fun k => ?_, by rw [ha]; rfl⟩
    simp only [impl_Interval_60.l0]
    rw [if_neg (by omega)]
  | cons b rest ih =>
    intro pre hp ha
    have hi : pre.length < l.length := by rw [hp]; simp
    have hb : l[pre.length] = b := by simp [hp]
    by_cases hok : okX b = true
    · obtain ⟨r, hr, hd⟩ := ih (pre ++ [b]) (by rw [hp]; simp) (by rw [List.all_append, ha]; simp [hok])
      refine ⟨r, Ev.step (f := fun k => impl_Interval_60.l0 k l (l.length : Nat) (((pre ++ [b]).length : Nat) : Int)) (fun k => ?_) hr, hd⟩
      simp only [impl_Interval_60.l0, impl_IsWhole.f]
      rw [if_pos (by omega), if_pos (by omega), if_pos (by omega), rd_at l _ hi, hb, validI_f, Option.bind_some, Option.bind_some, if_neg (by unfold okX at hok; rw [hok]; simp), wrap_small (by omega) (by omega)]
      simp
    · refine ⟨(pre.length : Nat), ev_of_all fun k => ?_, ?_⟩
      · simp only [impl_Interval_60.l0, impl_IsWhole.f]
        rw [if_pos (by omega), if_pos (by omega), if_pos (by omega), rd_at l _ hi, hb, validI_f, Option.bind_some, Option.bind_some, if_pos (by unfold okX at hok; simp [hok])]
      · rw [decide_eq_true (by omega), hp, List.all_append]
        simp [hok]
theorem contains_ev (l : List S35) (hl : l.length ≤ 2000000) : Ev (fun k => impl_Interval_40.f k l 0) (!(l.all okX)) := by
  obtain ⟨r, ⟨K, hK⟩, hd⟩ := index_loop l hl l [] rfl rfl
  refine ⟨K, fun k hk => ?_⟩
  have e : impl_Interval_60.l0 k l (l.length : Nat) 0 = some r := hK k hk
  simp only [impl_Interval_40.f, impl_Interval_60.f]
  rw [e, Option.bind_some, hd]
theorem validPoly_ev (l : List S35) (hl : l.length ≤ 2000000) : Ev (fun k => impl_ValidPoly.f k l) (okL l) := by
  obtain ⟨K, hK⟩ := contains_ev l hl
  refine ⟨K, fun k hk => ?_⟩
  have e := hK k hk
  simp only at e
  have hw : impl_within.f (l.length : Int) 1 17 = some (decide (1 ≤ l.length ∧ l.length ≤ 17)) := in17 _ hl
  simp only [impl_ValidPoly.f, impl_Interval_39.f]
  rw [Option.bind_some, hw, Option.bind_some]
  unfold okL
  by_cases h : 1 ≤ l.length ∧ l.length ≤ 17
  · rw [decide_eq_true h, if_pos rfl, e, Option.bind_some]; simp
  · rw [decide_eq_false h, if_neg (by simp)]; simp
theorem known_ev (l : List S35) (hl : l.length ≤ 2000000) : Ev (fun k => impl_known.f k l) (if l.all okX = true then (l, 0) else ([], 9)) := by
  obtain ⟨K, hK⟩ := contains_ev l hl
  refine ⟨K, fun k hk => ?_⟩
  have e := hK k hk
  simp only at e
  simp only [impl_known.f]
  rw [e, Option.bind_some]
  by_cases h : l.all okX = true
  · rw [if_pos h, h, if_neg (by simp)]
  · have h' : l.all okX = false := by simpa using h
    rw [if_neg h, h', if_pos (by rfl)]
theorem l09End_ev (l : List S35) (h1 : 1 ≤ l.length) (h17 : l.length ≤ 17) : Ev (fun k => spec_l09End.f k l) (if l.all okX = true then (l, 0) else ([], 9)) := by
  obtain ⟨K, hK⟩ := l09Ok_ev l (by omega)
  refine ⟨K, fun k hk => ?_⟩
  have e := hK k hk
  simp only at e
  simp only [spec_l09End.f]
  rw [if_neg (by omega), e, Option.bind_some]
  unfold okL
  rw [decide_eq_true ⟨h1, h17⟩, Bool.and_true]
  split <;> rfl
end Go.Proofs.Ytmdicdkceekodaa.TX
