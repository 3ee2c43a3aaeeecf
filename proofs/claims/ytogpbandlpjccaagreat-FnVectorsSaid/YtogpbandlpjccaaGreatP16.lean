/- The sines of an interval: the turns that are kept in a list and taken up one after the other, and those that are taken up at once. -/
import Derived.Test.YtogpbandlpjccaaGreatP15
set_option linter.unusedSimpArgs false
set_option linter.unusedVariables false
namespace Go.G880
open Go Go.RX

/-! ### The loops end -/
theorem Q_rng (n : Int) : -200 ≤ impl_QuarterOf n ∧ impl_QuarterOf n ≤ 200 := by rw [QuarterOf_eq]; exact Quarter_rng n
theorem pd_turns {q : Int} {rs : List Value} (h : -400 ≤ q ∧ q ≤ 400 ∧ (rs.length : Int) ≤ q + 400) : decide ((rs.length + 1) * 8 ≤ 140737488355328) = true := decide_eq_true (by omega)
theorem pd_turns0 (x : Int) : decide (-400 ≤ w64 (impl_QuarterOf x - 1) ∧ w64 (impl_QuarterOf x - 1) ≤ 400 ∧ (([] : List Value).length : Int) ≤ w64 (impl_QuarterOf x - 1) + 400) = true := by
  have := Q_rng x
  rw [w64_id (by omega) (by omega)]
  exact decide_eq_true ⟨by omega, by omega, by simp; omega⟩
theorem pd_over0 (x : Int) : decide (-400 ≤ w64 (spec_QuarterOf x - 1) ∧ w64 (spec_QuarterOf x - 1) ≤ 400) = true := by
  have := Quarter_rng x
  rw [w64_id (by omega) (by omega)]
  exact decide_eq_true ⟨by omega, by omega⟩
theorem dec_turns {x_lo x_hi : Int} {v v' : Int × List Value} (hv : -400 ≤ v.1 ∧ v.1 ≤ 400 ∧ (v.2.length : Int) ≤ v.1 + 400) (hr : impl_turnsIn.rnd3 x_lo x_hi v.1 v.2 = Sum.inl v') :
    (-400 ≤ v'.1 ∧ v'.1 ≤ 400 ∧ (v'.2.length : Int) ≤ v'.1 + 400) ∧ (401 - v'.1).toNat < (401 - v.1).toNat := by
  have hq := Q_rng x_hi
  simp only [impl_turnsIn.rnd3] at hr
  rw [w64_id (n := impl_QuarterOf x_hi + 1) (by omega) (by omega)] at hr
  cases h1 : decide (v.1 ≤ impl_QuarterOf x_hi + 1)
  · rw [h1] at hr; simp at hr
  have h1' := of_decide_eq_true h1
  rw [h1, w64_id (n := v.1 + 1) (by omega) (by omega)] at hr
  simp only [cond_true] at hr
  cases h2 : impl_OverlapI (impl_TurnI v.1) ⟨x_lo, x_hi⟩
  · rw [h2] at hr
    simp only [cond_false, Sum.inl.injEq] at hr
    subst hr
    simp only []
    omega
  · rw [h2] at hr
    simp only [cond_true, Sum.inl.injEq] at hr
    subst hr
    simp only [List.length_cons]
    omega
theorem dec_over {x_lo x_hi t : Int} {v v' : Int × Int × Int} (hv : -400 ≤ v.1 ∧ v.1 ≤ 400) (hr : spec_l06Over.rnd5 x_lo x_hi t v.1 v.2.1 v.2.2 = Sum.inl v') :
    (-400 ≤ v'.1 ∧ v'.1 ≤ 400) ∧ (401 - v'.1).toNat < (401 - v.1).toNat := by
  have hq := Quarter_rng x_hi
  simp only [spec_l06Over.rnd5] at hr
  rw [w64_id (n := spec_QuarterOf x_hi + 1) (by omega) (by omega)] at hr
  cases h1 : decide (v.1 ≤ spec_QuarterOf x_hi + 1)
  · rw [h1] at hr; simp at hr
  have h1' := of_decide_eq_true h1
  rw [h1, w64_id (n := v.1 + 1) (by omega) (by omega)] at hr
  have key : v'.1 = v.1 + 1 := by
    simp only [cond_true, Bool.cond_eq_ite] at hr
    (repeat' split at hr) <;> (cases hr <;> rfl)
  omega
theorem dec_hull {rs : List Value} {x_lo x_hi t n : Int} {v v' : Int × Int × Int} (hv : n = (rs.length : Int) ∧ 0 ≤ v.1 ∧ v.1 ≤ n ∧ n ≤ 1000) (hr : impl_circleHull.rnd5 rs x_lo x_hi t n v.1 v.2.1 v.2.2 = Sum.inl v') :
    (n = (rs.length : Int) ∧ 0 ≤ v'.1 ∧ v'.1 ≤ n ∧ n ≤ 1000) ∧ (n - v'.1).toNat < (n - v.1).toNat := by
  simp only [impl_circleHull.rnd5] at hr
  cases h1 : decide (v.1 < n)
  · rw [h1] at hr; simp at hr
  have h1' := of_decide_eq_true h1
  rw [h1, w64_id (n := v.1 + 1) (by omega) (by omega)] at hr
  have key : v'.1 = v.1 + 1 := by
    simp only [cond_true, Bool.cond_eq_ite] at hr
    (repeat' split at hr) <;> (cases hr <;> rfl)
  omega

/-! ### What they come to -/
/-- One quarter turn is taken up. -/
def upH (t : Int) (o : Iv) (q : Int) : Iv := bif (andI .i64 (w64 (q + t)) 3) == 1 then spec_HullI o (spec_Integer 1) else (bif (andI .i64 (w64 (q + t)) 3) == 3 then spec_HullI o (spec_Integer (-1)) else o)
def goF (x : Iv) (t : Int) : Nat → Int → Iv → Iv
  | 0, _, o => o
  | n + 1, k, o => goF x t n (k + 1) (bif spec_OverlapI (spec_TurnI k) x then upH t o k else o)
def goG (x : Iv) : Nat → Int → List Value → List Value
  | 0, _, rs => rs
  | n + 1, k, rs => goG x n (k + 1) (bif spec_OverlapI (spec_TurnI k) x then (Value.int .i64 k :: rs) else rs)

theorem over_fin (x : Iv) (t : Int) : ∀ (n f : Nat) (k : Int) (o : Iv), n < f → -400 ≤ k → (n : Int) = spec_QuarterOf x.hi + 2 - k ∨ (n = 0 ∧ spec_QuarterOf x.hi + 2 ≤ k ∧ k ≤ 400) →
    (iterV (fun v : Int × Int × Int => spec_l06Over.rnd5 x.lo x.hi t v.1 v.2.1 v.2.2) f (k, o.lo, o.hi)).2 = ((goF x t n k o).lo, (goF x t n k o).hi) := by
  intro n
  induction n with
  | zero =>
    intro f k o hf hk hn
    have hq := Quarter_rng x.hi
    obtain ⟨f, rfl⟩ : ∃ m, f = m + 1 := ⟨f - 1, by omega⟩
    have h1 : decide (k ≤ w64 (spec_QuarterOf x.hi + 1)) = false := by rw [w64_id (by omega) (by omega)]; exact decide_eq_false (by omega)
    simp only [iterV, spec_l06Over.rnd5, h1, cond_false, goF]
  | succ n ih =>
    intro f k o hf hk hn
    have hq := Quarter_rng x.hi
    obtain ⟨f, rfl⟩ : ∃ m, f = m + 1 := ⟨f - 1, by omega⟩
    have hn' : (n : Int) + 1 = spec_QuarterOf x.hi + 2 - k := by rcases hn with h | h <;> omega
    have h1 : decide (k ≤ w64 (spec_QuarterOf x.hi + 1)) = true := by rw [w64_id (by omega) (by omega)]; exact decide_eq_true (by omega)
    have h2 : w64 (k + 1) = k + 1 := w64_id (by omega) (by omega)
    simp only [iterV, spec_l06Over.rnd5, h1, cond_true, goF, h2]
    cases h3 : spec_OverlapI (spec_TurnI k) ⟨x.lo, x.hi⟩
    · simp only [Bool.not_false, cond_true, cond_false, show spec_OverlapI (spec_TurnI k) x = false from h3]
      exact ih f (k + 1) o (by omega) (by omega) (.inl (by omega))
    · simp only [Bool.not_true, cond_false, cond_true, show spec_OverlapI (spec_TurnI k) x = true from h3, upH]
      cases h4 : andI .i64 (w64 (k + t)) 3 == 1
      · simp only [cond_false]
        cases h5 : andI .i64 (w64 (k + t)) 3 == 3
        · simp only [cond_false]
          exact ih f (k + 1) o (by omega) (by omega) (.inl (by omega))
        · simp only [cond_true]
          exact ih f (k + 1) _ (by omega) (by omega) (.inl (by omega))
      · simp only [cond_true]
        exact ih f (k + 1) _ (by omega) (by omega) (.inl (by omega))

theorem turns_fin (x : Iv) : ∀ (n f : Nat) (k : Int) (rs : List Value), n < f → -400 ≤ k → (n : Int) = spec_QuarterOf x.hi + 2 - k ∨ (n = 0 ∧ spec_QuarterOf x.hi + 2 ≤ k ∧ k ≤ 400) →
    (iterV (fun v : Int × List Value => impl_turnsIn.rnd3 x.lo x.hi v.1 v.2) f (k, rs)).2 = goG x n k rs := by
  intro n
  induction n with
  | zero =>
    intro f k rs hf hk hn
    have hq := Quarter_rng x.hi
    obtain ⟨f, rfl⟩ : ∃ m, f = m + 1 := ⟨f - 1, by omega⟩
    have h1 : decide (k ≤ w64 (impl_QuarterOf x.hi + 1)) = false := by rw [QuarterOf_eq, w64_id (by omega) (by omega)]; exact decide_eq_false (by omega)
    simp only [iterV, impl_turnsIn.rnd3, h1, cond_false, goG]
  | succ n ih =>
    intro f k rs hf hk hn
    have hq := Quarter_rng x.hi
    obtain ⟨f, rfl⟩ : ∃ m, f = m + 1 := ⟨f - 1, by omega⟩
    have hn' : (n : Int) + 1 = spec_QuarterOf x.hi + 2 - k := by rcases hn with h | h <;> omega
    have h1 : decide (k ≤ w64 (impl_QuarterOf x.hi + 1)) = true := by rw [QuarterOf_eq, w64_id (by omega) (by omega)]; exact decide_eq_true (by omega)
    have h2 : w64 (k + 1) = k + 1 := w64_id (by omega) (by omega)
    have hs : impl_turnsIn.rnd3 x.lo x.hi k rs = Sum.inl (k + 1, bif spec_OverlapI (spec_TurnI k) x then (Value.int .i64 k :: rs) else rs) := by
      simp only [impl_turnsIn.rnd3, h1, cond_true, h2, OverlapI_eq, TurnI_eq]
      show (bif spec_OverlapI (spec_TurnI k) x then _ else _) = _
      cases spec_OverlapI (spec_TurnI k) x <;> rfl
    rw [iterV]
    dsimp only
    rw [hs]
    exact ih f (k + 1) _ (by omega) (by omega) (.inl (by omega))

theorem goG_len (x : Iv) : ∀ (n : Nat) (k : Int) (rs : List Value), (goG x n k rs).length ≤ rs.length + n := by
  intro n
  induction n with
  | zero => intro k rs; exact Nat.le_refl _
  | succ n ih =>
    intro k rs
    simp only [goG]
    cases spec_OverlapI (spec_TurnI k) x
    · have := ih (k + 1) rs; simp only [cond_false]; omega
    · have := ih (k + 1) (Value.int .i64 k :: rs); simp only [cond_true, List.length_cons] at this ⊢; omega

theorem goG_fold (x : Iv) (t : Int) (o : Iv) : ∀ (n : Nat) (k : Int) (rs : List Value), ((goG x n k rs).reverse.map cI).foldl (upH t) o = goF x t n k ((rs.reverse.map cI).foldl (upH t) o) := by
  intro n
  induction n with
  | zero => intro k rs; rfl
  | succ n ih =>
    intro k rs
    simp only [goG, goF]
    cases spec_OverlapI (spec_TurnI k) x
    · simp only [cond_false]; exact ih (k + 1) rs
    · simp only [cond_true]
      rw [ih (k + 1) (Value.int .i64 k :: rs)]
      simp [cI]

theorem hull_fin (rs : List Value) (xl xh t n : Int) (hn : n = (rs.length : Int)) (hn2 : n ≤ 1000) : ∀ (d f : Nat) (i : Int) (o : Iv), d < f → 0 ≤ i → (d : Int) = n - i →
    (iterV (fun v : Int × Int × Int => impl_circleHull.rnd5 rs xl xh t n v.1 v.2.1 v.2.2) f (i, o.lo, o.hi)).2 =
      ((((rs.reverse.drop i.toNat).map cI).foldl (upH t) o).lo, (((rs.reverse.drop i.toNat).map cI).foldl (upH t) o).hi) := by
  intro d
  induction d with
  | zero =>
    intro f i o hf hi hd
    obtain ⟨f, rfl⟩ : ∃ m, f = m + 1 := ⟨f - 1, by omega⟩
    have h1 : decide (i < n) = false := decide_eq_false (by omega)
    have h2 : rs.reverse.drop i.toNat = [] := List.drop_eq_nil_of_le (by simp; omega)
    simp only [iterV, impl_circleHull.rnd5, h1, cond_false, h2, List.map_nil, List.foldl_nil]
  | succ d ih =>
    intro f i o hf hi hd
    obtain ⟨f, rfl⟩ : ∃ m, f = m + 1 := ⟨f - 1, by omega⟩
    have h1 : decide (i < n) = true := decide_eq_true (by omega)
    have h2 : w64 (i + 1) = i + 1 := w64_id (by omega) (by omega)
    have hlt : i.toNat < rs.reverse.length := by simp; omega
    have hlt' : i.toNat < rs.length := by omega
    have h3 : rs.reverse.drop i.toNat = nthR rs true i.toNat :: rs.reverse.drop (i + 1).toNat := by
      rw [List.drop_eq_getElem_cons hlt, show (i + 1).toNat = i.toNat + 1 by omega]
      congr 1
      have := nthR_get (g := true) hlt'
      simp only [inOrder] at this
      rw [List.getElem?_eq_getElem hlt] at this
      simpa using this
    have hs : impl_circleHull.rnd5 rs xl xh t n i o.lo o.hi = Sum.inl (i + 1, (upH t o (cI (nthR rs true i.toNat))).lo, (upH t o (cI (nthR rs true i.toNat))).hi) := by
      simp only [impl_circleHull.rnd5, h1, cond_true, h2, HullI_eq, Integer_eq, atI, upH]
      generalize cI (nthR rs true i.toNat) = q
      cases h4 : andI .i64 (w64 (q + t)) 3 == 1
      · simp only [cond_false]
        cases h5 : andI .i64 (w64 (q + t)) 3 == 3
        · simp only [cond_false]
        · simp only [cond_true]
      · simp only [cond_true]
    rw [iterV]
    dsimp only
    rw [hs, h3]
    exact ih f (i + 1) _ (by omega) (by omega) (by omega)

theorem turns_val (x : Iv) : ∃ n : Nat, n ≤ 403 ∧ ((n : Int) = spec_QuarterOf x.hi + 2 - (spec_QuarterOf x.lo - 1) ∨ (n = 0 ∧ spec_QuarterOf x.hi + 2 ≤ spec_QuarterOf x.lo - 1)) ∧ impl_turnsIn x = goG x n (spec_QuarterOf x.lo - 1) [] := by
  have h1 := Quarter_rng x.hi
  have h2 := Quarter_rng x.lo
  refine ⟨(spec_QuarterOf x.hi + 2 - (spec_QuarterOf x.lo - 1)).toNat, by omega, by omega, ?_⟩
  simp only [impl_turnsIn, impl_turnsIn.fin3, QuarterOf_eq]
  rw [w64_id (n := spec_QuarterOf x.lo - 1) (by omega) (by omega)]
  exact turns_fin x _ _ _ _ (by omega) (by omega) (by omega)
theorem pd_hull0 (x : Iv) : decide (((impl_turnsIn x).length : Int) = ((impl_turnsIn x).length : Int) ∧ (0 : Int) ≤ (0 : Int) ∧ (0 : Int) ≤ ((impl_turnsIn x).length : Int) ∧ ((impl_turnsIn x).length : Int) ≤ 1000) = true := by
  obtain ⟨n, h1, _, h2⟩ := turns_val x
  have := goG_len x n (spec_QuarterOf x.lo - 1) []
  rw [h2]
  simp only [List.length_nil] at this
  exact decide_eq_true ⟨rfl, Int.le_refl _, by omega, by omega⟩

theorem hull_eq (x : Iv) (t : Int) : impl_circleHull x t = spec_l06Over x t := by
  have ef : impl_areAngles x = spec_l06Fits x := rfl
  simp only [impl_circleHull, spec_l06Over, ef]
  cases h : spec_l06Fits x
  · rfl
  simp only [Bool.not_true, cond_false]
  obtain ⟨n, h1, h2, h3⟩ := turns_val x
  have q1 := Quarter_rng x.hi
  have q2 := Quarter_rng x.lo
  have hl := goG_len x n (spec_QuarterOf x.lo - 1) []
  simp only [List.length_nil] at hl
  have e1 := over_fin x t n 802 (spec_QuarterOf x.lo - 1) (spec_HullI (spec_l06At x.lo t) (spec_l06At x.hi t)) (by omega) (by omega) (by omega)
  have e2 := hull_fin (impl_turnsIn x) x.lo x.hi t ((impl_turnsIn x).length : Int) rfl (by rw [h3]; omega) (impl_turnsIn x).length 1001 0 (spec_HullI (spec_l06At x.lo t) (spec_l06At x.hi t)) (by rw [h3]; omega) (by omega) (by omega)
  simp only [Int.toNat_zero, List.drop_zero] at e2
  rw [show ((impl_turnsIn x).reverse.map cI).foldl (upH t) (spec_HullI (spec_l06At x.lo t) (spec_l06At x.hi t)) = goF x t n (spec_QuarterOf x.lo - 1) (spec_HullI (spec_l06At x.lo t) (spec_l06At x.hi t)) by rw [h3, goG_fold]; rfl] at e2
  rw [w64_id (n := spec_QuarterOf x.lo - 1) (by omega) (by omega)]
  simp only [impl_circleHull.fin5, spec_l06Over.fin5, HullI_eq, circle_eq]
  rw [e1, e2]

theorem SinI_eq (x : Iv) : impl_SinI x = spec_SinI x := hull_eq x 0
theorem CosI_eq (x : Iv) : impl_CosI x = spec_CosI x := hull_eq x 1

end Go.G880
