/- Newton's method: the reference and the program come to one interval, for a root lies in it all the time. -/
import Derived.Test.YtmdicdkceekodaaGreatPN4
set_option linter.unusedVariables false
set_option linter.unusedSimpArgs false
namespace Go.G880.Nw
open Go Go.RX Go.G880 Go.Newton

/-- A polynomial of the given ones. -/
def coef (l : List Value) (k : Nat) : Rat := fx (atIv l false (k : Int)).lo
theorem coefW (l : List Value) : ∀ k, k < l.length → HasW (atIv l false (k : Int)) (coef l k) := fun k _ h => has_lo h
theorem sign_pos {X : Iv} (h : spec_l09Sign X = 1) : spec_l04Ok X = true ∧ 0 < X.lo := by
  simp only [spec_l09Sign] at h
  cases k : spec_l04Ok X
  · rw [k] at h; simp at h
  rw [k] at h
  simp only [Bool.not_true, cond_false] at h
  by_cases h1 : X.lo > 0
  · exact ⟨rfl, h1⟩
  · rw [decide_eq_false h1] at h
    by_cases h2 : X.hi < 0
    · rw [decide_eq_true h2] at h; simp at h
    · rw [decide_eq_false h2] at h; simp at h
theorem sign_neg {X : Iv} (h : spec_l09Sign X = -1) : spec_l04Ok X = true ∧ X.hi < 0 := by
  simp only [spec_l09Sign] at h
  cases k : spec_l04Ok X
  · rw [k] at h; simp at h
  rw [k] at h
  simp only [Bool.not_true, cond_false] at h
  by_cases h1 : X.lo > 0
  · rw [decide_eq_true h1] at h; simp at h
  · rw [decide_eq_false h1] at h
    by_cases h2 : X.hi < 0
    · exact ⟨rfl, h2⟩
    · rw [decide_eq_false h2] at h; simp at h
theorem fx0 : fx 0 = 0 := by decide +kernel
theorem atFix {n : Int} (h : -1152921504606846976 < n ∧ n < 1152921504606846976) : spec_l08At n = ⟨n, n⟩ := by
  simp only [spec_l08At]
  exact make_ok (by omega)
theorem signAt_pos {l : List Value} (hl : 1 ≤ l.length ∧ l.length ≤ 17) {n : Int} (hn : -1152921504606846976 < n ∧ n < 1152921504606846976) (h : spec_l09SignAt l n = 1) : 0 ≤ evp (pol (coef l) 0 l.length) (fx n) := by
  simp only [spec_l09SignAt, atFix hn] at h
  obtain ⟨h1, h2⟩ := sign_pos h
  have := has_fx (atW l (coef l) ⟨n, n⟩ (fx n) (fun _ => has_pt) (by omega) (coefW l) h1)
  have h3 := fx_le (show 0 ≤ (spec_l09At l ⟨n, n⟩).lo by omega)
  rw [fx0] at h3
  exact Rat.le_trans h3 this.1
theorem signAt_neg {l : List Value} (hl : 1 ≤ l.length ∧ l.length ≤ 17) {n : Int} (hn : -1152921504606846976 < n ∧ n < 1152921504606846976) (h : spec_l09SignAt l n = -1) : evp (pol (coef l) 0 l.length) (fx n) ≤ 0 := by
  simp only [spec_l09SignAt, atFix hn] at h
  obtain ⟨h1, h2⟩ := sign_neg h
  have := has_fx (atW l (coef l) ⟨n, n⟩ (fx n) (fun _ => has_pt) (by omega) (coefW l) h1)
  have h3 := fx_le (show (spec_l09At l ⟨n, n⟩).hi ≤ 0 by omega)
  rw [fx0] at h3
  exact Rat.le_trans this.2 h3
theorem change_chg {l : List Value} (hl : 1 ≤ l.length ∧ l.length ≤ 17) {x : Iv} (hx : spec_l04Ok x = true) (h : (spec_l09Change l x == 1) = true) : Chg (pol (coef l) 0 l.length) (fx x.lo) (fx x.hi) := by
  have hi := (ok_iff _).1 hx
  simp only [spec_l09Change] at h
  have a := sign_rng (spec_l09At l (spec_l08At x.lo))
  have b := sign_rng (spec_l09At l (spec_l08At x.hi))
  change spec_l09SignAt l x.lo = 0 ∨ spec_l09SignAt l x.lo = 1 ∨ spec_l09SignAt l x.lo = -1 at a
  change spec_l09SignAt l x.hi = 0 ∨ spec_l09SignAt l x.hi = 1 ∨ spec_l09SignAt l x.hi = -1 at b
  rcases a with a | a | a
  · rw [a] at h; simp at h
  · rcases b with b | b | b
    · rw [a, b] at h; simp at h
    · rw [a, b] at h; simp at h
    · exact Or.inr ⟨signAt_neg hl (by omega) b, signAt_pos hl (by omega) a⟩
  · rcases b with b | b | b
    · rw [a, b] at h; simp at h
    · exact Or.inl ⟨signAt_neg hl (by omega) a, signAt_pos hl (by omega) b⟩
    · rw [a, b] at h; simp at h

/-- What Newton's method looks at. -/
def newN (l s : List Value) (lo hi : Int) : Iv := spec_SubI (spec_l08At ((lo + hi) / 2)) (spec_DivI (spec_l09At l (spec_l08At ((lo + hi) / 2))) (spec_l09At s ⟨lo, hi⟩))
theorem quotient {y : Int} {a : Rat} (hy : y ≠ 0) : ∃ r : Rat, (y : Rat) * r = a * 4294967296 := by
  have hne : (y : Rat) ≠ 0 := by
    intro h
    have : ((y : Int) : Rat) = ((0 : Int) : Rat) := h
    exact hy (by exact_mod_cast this)
  refine ⟨(y : Rat)⁻¹ * (a * 4294967296), ?_⟩
  rw [← Rat.mul_assoc, Rat.mul_inv_cancel _ hne, Rat.one_mul]
/-- There is a common part, and a sign changes on it. -/
theorem meet_ok {l : List Value} (hl : 1 ≤ l.length ∧ l.length ≤ 17) (hd : ((spec_PolyDerivative l).2 == 0) = true) {lo hi : Int} (hx : spec_l04Ok ⟨lo, hi⟩ = true) (hc : Chg (pol (coef l) 0 l.length) (fx lo) (fx hi)) :
    (spec_MeetI ⟨lo, hi⟩ (newN l (List.reverse (spec_PolyDerivative l).1) lo hi)).2 = true ∧
    spec_l04Ok (spec_MeetI ⟨lo, hi⟩ (newN l (List.reverse (spec_PolyDerivative l).1) lo hi)).1 = true ∧
    Chg (pol (coef l) 0 l.length) (fx (spec_MeetI ⟨lo, hi⟩ (newN l (List.reverse (spec_PolyDerivative l).1) lo hi)).1.lo) (fx (spec_MeetI ⟨lo, hi⟩ (newN l (List.reverse (spec_PolyDerivative l).1) lo hi)).1.hi) := by
  have hh := (ok_iff _).1 hx
  simp only at hh
  generalize hN : newN l (List.reverse (spec_PolyDerivative l).1) lo hi = N
  cases kN : spec_l04Ok N
  · simp only [spec_MeetI, hx, kN, Bool.not_true, Bool.not_false, cond_true, cond_false]
    exact ⟨trivial, trivial, hc⟩
  have kN' := kN
  rw [← hN] at kN'
  simp only [newN] at kN' hN
  have hm1 : lo ≤ (lo + hi) / 2 := by omega
  have hm2 : (lo + hi) / 2 ≤ hi := by omega
  generalize hmm : (lo + hi) / 2 = m at *
  rw [atFix (by omega)] at kN' hN
  obtain ⟨q1, q2⟩ := SubI_ok2 kN'
  obtain ⟨o1, o2, o3⟩ := DivI_ok2 q2
  generalize hS : spec_l09At (List.reverse (spec_PolyDerivative l).1) ⟨lo, hi⟩ = S at *
  have hSi := (ok_iff _).1 o2
  have hz : ¬ (S.lo ≤ 0 ∧ 0 ≤ S.hi) := by
    have := mt (l00In_iff 0 S.lo S.hi).2 (by rw [spec_l04Has] at o3; rw [o3]; simp)
    exact this
  have slope : ∀ u, fx lo ≤ u → u ≤ fx hi → fx S.lo ≤ dv (pol (coef l) 0 l.length) u ∧ dv (pol (coef l) 0 l.length) u ≤ fx S.hi := by
    intro u u1 u2
    have := slopeW l (coef l) ⟨lo, hi⟩ u (fun _ => fx_has u1 u2) hl (coefW l) hd
    rw [hS] at this
    exact has_fx (this o2)
  have hP := atW l (coef l) ⟨m, m⟩ (fx m) (fun _ => has_pt) (by omega) (coefW l) o1
  obtain ⟨r1, e1⟩ := quotient (y := S.lo) (a := evp (pol (coef l) 0 l.length) (fx m)) (by omega)
  obtain ⟨r2, e2⟩ := quotient (y := S.hi) (a := evp (pol (coef l) 0 l.length) (fx m)) (by omega)
  have d1 := DivI_has hP q2 S.lo (Or.inl rfl) e1
  have d2 := DivI_has hP q2 S.hi (Or.inr rfl) e2
  have n1 := has_fx (SubI_has (has_pt (n := m)) d1 kN')
  have n2 := has_fx (SubI_has (has_pt (n := m)) d2 kN')
  rw [hN] at n1 n2
  have f1 : fx S.lo * r1 = evp (pol (coef l) 0 l.length) (fx m) := by
    have a := fx_mul S.lo
    rw [← a] at e1
    grind
  have f2 : fx S.hi * r2 = evp (pol (coef l) 0 l.length) (fx m) := by
    have a := fx_mul S.hi
    rw [← a] at e2
    grind
  have hs : 0 < fx S.lo ∨ fx S.hi < 0 := by
    by_cases hp : 0 < S.lo
    · left
      have : ¬ fx S.lo ≤ fx 0 := fun h => by have := le_fx h; omega
      rw [fx0] at this
      grind
    · right
      have : ¬ fx 0 ≤ fx S.hi := fun h => by have := le_fx h; omega
      rw [fx0] at this
      grind
  obtain ⟨g1, g2, g3⟩ := newton_step (pol (coef l) 0 l.length) (fx lo) (fx hi) (fx m) (fx S.lo) (fx S.hi) r1 r2 (fx N.lo) (fx N.hi) (fx_le hm1) (fx_le hm2) hs (fun u a b => (slope u a b).1) (fun u a b => (slope u a b).2) hc f1 f2 n1.1 n2.1 n1.2 n2.2
  have i1 := le_fx g1
  have i2 := le_fx g2
  have hNi := (ok_iff _).1 kN
  have tmax : fx (spec_l00Max lo N.lo) = if fx lo ≤ fx N.lo then fx N.lo else fx lo := by
    simp only [spec_l00Max, Bool.cond_eq_ite, decide_eq_true_eq]
    by_cases hk : lo ≤ N.lo
    · rw [if_pos (fx_le hk)]
      by_cases hk2 : lo > N.lo
      · omega
      · rw [if_neg hk2]
    · rw [if_neg (fun h => hk (le_fx h)), if_pos (by omega)]
  have tmin : fx (spec_l00Min hi N.hi) = if fx N.hi ≤ fx hi then fx N.hi else fx hi := by
    simp only [spec_l00Min, Bool.cond_eq_ite, decide_eq_true_eq]
    by_cases hk : N.hi ≤ hi
    · rw [if_pos (fx_le hk)]
      by_cases hk2 : hi < N.hi
      · omega
      · rw [if_neg hk2]
    · rw [if_neg (fun h => hk (le_fx h)), if_pos (by omega)]
  have vmax : spec_l00Max lo N.lo = lo ∨ spec_l00Max lo N.lo = N.lo := by
    simp only [spec_l00Max, Bool.cond_eq_ite]
    split <;> simp
  have vmin : spec_l00Min hi N.hi = hi ∨ spec_l00Min hi N.hi = N.hi := by
    simp only [spec_l00Min, Bool.cond_eq_ite]
    split <;> simp
  have lmax := le_max lo N.lo
  have lmin := min_le hi N.hi
  have hgt : decide (spec_l00Max lo N.lo > spec_l00Min hi N.hi) = false := decide_eq_false (by omega)
  simp only [spec_MeetI, hx, kN, Bool.not_true, cond_false, hgt]
  refine ⟨trivial, (ok_iff _).2 (by simp only; omega), ?_⟩
  rw [tmax, tmin]
  exact g3

theorem newton_loop (l : List Value) (hl : (l.length : Int) ≤ 1048576) (hv : spec_l09Ok l = true) (hd : ((spec_PolyDerivative l).2 == 0) = true) (n : Int) (hn : n ≤ 60) : ∀ (f : Nat) (k lo hi : Int), 0 ≤ k → k ≤ n → spec_l04Ok ⟨lo, hi⟩ = true → Chg (pol (coef l) 0 l.length) (fx lo) (fx hi) →
    (iterV (fun v : Int × Int × Int => impl_NewtonRoot.rnd6 l (spec_PolyDerivative l).1 n v.1 v.2.1 v.2.2) f (n - k, lo, hi)).2 = (iterV (fun v : Int × Int × Int => spec_NewtonRoot.rnd5 l (spec_PolyDerivative l).1 v.1 v.2.1 v.2.2) f (k, lo, hi)).2 := by
  intro f
  induction f with
  | zero => intro k lo hi _ _ _ _; rfl
  | succ f ih =>
    intro k lo hi h0 hkn hok hc
    have hh := (ok_iff _).1 hok
    simp only at hh
    have hlen := l09_len hl hv
    obtain ⟨_, ds1, ds2⟩ := der_ok hl hd
    have hw : w64 (lo + hi) = lo + hi := w64_id (by omega) (by omega)
    have hm : Int.fdiv (lo + hi) 2 = (lo + hi) / 2 := fdiv_pos _ (by omega)
    have ha : impl_at ((lo + hi) / 2) = spec_l08At ((lo + hi) / 2) := by rw [atFix (by omega)]; rfl
    have hat : spec_l04Ok (spec_l08At ((lo + hi) / 2)) = true := by rw [atFix (by omega)]; exact (ok_iff _).2 (by simp only; omega)
    have p1 : impl_PolyAt l (spec_l08At ((lo + hi) / 2)) = spec_l09At l (spec_l08At ((lo + hi) / 2)) := PolyAt_eq hl hv hat
    have p2 : impl_PolyAt (List.reverse (spec_PolyDerivative l).1) ⟨lo, hi⟩ = spec_l09At (List.reverse (spec_PolyDerivative l).1) ⟨lo, hi⟩ := PolyAt_eq ds2 ds1 hok
    rw [iterV, iterV]
    dsimp only
    by_cases hk : k = 0
    · subst hk
      have e1 : decide (n - 0 < n) = false := decide_eq_false (by omega)
      have e2 : decide ((0 : Int) > 0) = false := rfl
      have hI : impl_NewtonRoot.rnd6 l (spec_PolyDerivative l).1 n (n - 0) lo hi = Sum.inr (n - 0, lo, hi) := by simp only [impl_NewtonRoot.rnd6, e1, cond_false]
      have hS : spec_NewtonRoot.rnd5 l (spec_PolyDerivative l).1 0 lo hi = Sum.inr (0, lo, hi) := by simp only [spec_NewtonRoot.rnd5, e2, cond_false]
      rw [hI, hS]
    have e1 : decide (n - k < n) = true := decide_eq_true (by omega)
    have e2 : decide (k > 0) = true := decide_eq_true (by omega)
    have e5 : w64 (n - k + 1) = n - (k - 1) := by rw [w64_id (by omega) (by omega)]; omega
    have e6 : w64 (k - 1) = k - 1 := w64_id (by omega) (by omega)
    obtain ⟨m1, m2, m3⟩ := meet_ok (l := l) (by omega) hd hok hc
    simp only [newN] at m1 m2 m3
    have hI : impl_NewtonRoot.rnd6 l (spec_PolyDerivative l).1 n (n - k) lo hi = bif ((spec_MeetI ⟨lo, hi⟩ (spec_SubI (spec_l08At ((lo + hi) / 2)) (spec_DivI (spec_l09At l (spec_l08At ((lo + hi) / 2))) (spec_l09At (List.reverse (spec_PolyDerivative l).1) ⟨lo, hi⟩)))).1.lo == lo && (spec_MeetI ⟨lo, hi⟩ (spec_SubI (spec_l08At ((lo + hi) / 2)) (spec_DivI (spec_l09At l (spec_l08At ((lo + hi) / 2))) (spec_l09At (List.reverse (spec_PolyDerivative l).1) ⟨lo, hi⟩)))).1.hi == hi) then Sum.inr (n - k, lo, hi) else Sum.inl (n - (k - 1), (spec_MeetI ⟨lo, hi⟩ (spec_SubI (spec_l08At ((lo + hi) / 2)) (spec_DivI (spec_l09At l (spec_l08At ((lo + hi) / 2))) (spec_l09At (List.reverse (spec_PolyDerivative l).1) ⟨lo, hi⟩)))).1.lo, (spec_MeetI ⟨lo, hi⟩ (spec_SubI (spec_l08At ((lo + hi) / 2)) (spec_DivI (spec_l09At l (spec_l08At ((lo + hi) / 2))) (spec_l09At (List.reverse (spec_PolyDerivative l).1) ⟨lo, hi⟩)))).1.hi) := by
      simp only [impl_NewtonRoot.rnd6, impl_MidI, isWhole_eq, hok, Bool.not_true, cond_false, hw, hm, ha, p1, p2, MeetI_eq, SubI_eq, DivI_eq, e1, cond_true, e5, m1]
    have hS : spec_NewtonRoot.rnd5 l (spec_PolyDerivative l).1 k lo hi = bif ((spec_MeetI ⟨lo, hi⟩ (spec_SubI (spec_l08At ((lo + hi) / 2)) (spec_DivI (spec_l09At l (spec_l08At ((lo + hi) / 2))) (spec_l09At (List.reverse (spec_PolyDerivative l).1) ⟨lo, hi⟩)))).1.lo == lo && (spec_MeetI ⟨lo, hi⟩ (spec_SubI (spec_l08At ((lo + hi) / 2)) (spec_DivI (spec_l09At l (spec_l08At ((lo + hi) / 2))) (spec_l09At (List.reverse (spec_PolyDerivative l).1) ⟨lo, hi⟩)))).1.hi == hi) then Sum.inr (k, lo, hi) else Sum.inl (k - 1, (spec_MeetI ⟨lo, hi⟩ (spec_SubI (spec_l08At ((lo + hi) / 2)) (spec_DivI (spec_l09At l (spec_l08At ((lo + hi) / 2))) (spec_l09At (List.reverse (spec_PolyDerivative l).1) ⟨lo, hi⟩)))).1.lo, (spec_MeetI ⟨lo, hi⟩ (spec_SubI (spec_l08At ((lo + hi) / 2)) (spec_DivI (spec_l09At l (spec_l08At ((lo + hi) / 2))) (spec_l09At (List.reverse (spec_PolyDerivative l).1) ⟨lo, hi⟩)))).1.hi) := by
      simp only [spec_NewtonRoot.rnd5, hw, hm, e2, cond_true, e6]
    rw [hI, hS]
    generalize (spec_MeetI ⟨lo, hi⟩ (spec_SubI (spec_l08At ((lo + hi) / 2)) (spec_DivI (spec_l09At l (spec_l08At ((lo + hi) / 2))) (spec_l09At (List.reverse (spec_PolyDerivative l).1) ⟨lo, hi⟩)))).1 = X at m2 m3 ⊢
    cases c1 : (X.lo == lo && X.hi == hi)
    · simp only [cond_false]
      exact ih (k - 1) X.lo X.hi (by omega) (by omega) m2 m3
    · rfl
theorem Newton_eq (l : List Value) (hl : (l.length : Int) ≤ 1048576) (x : Iv) (n : Int) : impl_NewtonRoot l x n = spec_NewtonRoot l x n := by
  simp only [impl_NewtonRoot, spec_NewtonRoot, Ask_eq l hl, Der_eq l hl]
  cases h : ((spec_l09Ask l x n) != 0)
  case true => rfl
  obtain ⟨h1, h2, h3, h4, h5⟩ := ask_ok hl h
  have hd := ask_der hl h
  have hlen := l09_len hl h1
  have hc : Chg (pol (coef l) 0 l.length) (fx x.lo) (fx x.hi) := by
    refine change_chg (by omega) h2 ?_
    simp only [spec_UniqueRoot, hd, h2, cond_true, spec_l09Unique] at h5
    cases k : (spec_l09Change l x == 1)
    · rw [k] at h5; cases h5
    · rfl
  have := newton_loop l hl h1 hd n h4 62 n x.lo x.hi h3 (by omega) h2 hc
  rw [Int.sub_self] at this
  simp only [cond_false, impl_NewtonRoot.fin6, spec_NewtonRoot.fin5, this]
end Go.G880.Nw
namespace Go.G880
open Go Go.RX
theorem laws_FnExactNewtonRoot.holds (a0 : List Value) (a1 : Iv) (a2 : Int) (w0 : (a0.length : Int) ≤ 9223372036854775807) (w1 : a1.In) (w2 : In64 a2) : laws_FnExactNewtonRoot a0 a1 a2 = true := by
  simp only [laws_FnExactNewtonRoot]
  cases h : decide (laws_szIntervalS a0 1048576 < 0)
  · have hl := of_decide_eq_true (pd_sz (decide_eq_true w0) h)
    have hr : ((List.reverse (laws_toIntervalS a0)).length : Int) ≤ 1048576 := by rw [List.length_reverse, toS_len hl]; exact hl
    simp only [cond_false, Nw.Newton_eq _ hr, eqI_refl, eqS_refl hr, law_ne0 rfl, Bool.not_true]
  · rfl
end Go.G880
