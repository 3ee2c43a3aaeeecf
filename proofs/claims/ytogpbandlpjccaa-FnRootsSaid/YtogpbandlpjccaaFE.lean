/- The search for roots: what it keeps, and that it never comes to too many pieces. -/
import Derived.Test.YtogpbandlpjccaaRT4
import Derived.Test.YtogpbandlpjccaaF1
set_option linter.unusedVariables false
set_option linter.unusedSimpArgs false
set_option linter.unusedSectionVars false
namespace Go.Proofs.Ytogpbandlpjccaa.TX
open Go.RowKit Go.RX Go.G880 Go.G880.Nw Go.G880.Rt Go.Newton
theorem midI_val {x : Iv} (h : qaF x = true) : qaR x = (x.lo + x.hi) / 2 ∧ x.lo ≤ (x.lo + x.hi) / 2 ∧ (x.lo + x.hi) / 2 ≤ x.hi := by
 have hh := (qcM _).1 h
 have hw : w64 (x.lo + x.hi) = x.lo + x.hi := qc2 (by omega) (by omega)
 have hm : Int.fdiv (x.lo + x.hi) 2 = (x.lo + x.hi) / 2 := qe6 _ (by omega)
 refine ⟨?_, by omega, by omega⟩
 simp only [qaR, qd1, h, Bool.not_true, cond_false, hw, hm]
theorem parts_ok {x : Iv} (h : qaF x = true) : qaF ⟨x.lo, qaR x⟩ = true ∧ qaF ⟨qaR x, x.hi⟩ = true := by
 have hh := (qcM _).1 h
 obtain ⟨e, a, b⟩ := midI_val h
 rw [e]
 exact ⟨(qcM _).2 (by simp only; omega), (qcM _).2 (by simp only; omega)⟩
section
variable {l : List Value} (hP : Pol l)
include hP
theorem qg5 : (l.length : Int) ≤ 1048576 := by have := hP.len.2; omega
theorem slopes_sl : qeX l = sl l := by
 have := hP.der
 unfold qeX
 rw [Der_eq l (qg5 hP), this]
 rfl
theorem sl_ok : qbK (sl l) = true ∧ ((sl l).length : Int) ≤ 1048576 ∧ (sl l).isEmpty = false := by
 obtain ⟨_, a, b⟩ := der_ok (qg5 hP) hP.der
 refine ⟨a, b, ?_⟩
 have := qhL b a
 cases h : sl l with
 | nil => have h' : List.reverse (qaI l).1 = [] := h; rw [h'] at this; simp at this
 | cons _ _ => rfl
theorem rootless_val {x : Iv} (hx : qaF x = true) : qe4 l (sl l) x = true ↔
  qb1 (qaP l x) ≠ 0 ∨ qb1 (qdZ (qaP l ⟨(x.lo + x.hi) / 2, (x.lo + x.hi) / 2⟩) (qdQ (qaP (sl l) x) (qcZ x ⟨(x.lo + x.hi) / 2, (x.lo + x.hi) / 2⟩))) ≠ 0 := by
 obtain ⟨e, a, b⟩ := midI_val hx
 obtain ⟨s1, s2, s3⟩ := sl_ok hP
 have hh := (qcM _).1 hx
 have hm : qaF ⟨(x.lo + x.hi) / 2, (x.lo + x.hi) / 2⟩ = true := (qcM _).2 (by simp only; omega)
 have ha : qbW (qaR x) = ⟨(x.lo + x.hi) / 2, (x.lo + x.hi) / 2⟩ := by rw [e]; rfl
 unfold qe4
 rw [s3, ha, SignI_eq, qf4 (qg5 hP) hP.ok hx, qf4 (qg5 hP) hP.ok hm, qf4 s2 s1 hx, SignI_eq, AddI_eq, MulI_eq, SubI_eq]
 cases h : qb1 (qaP l x) != 0
 ·have h' : qb1 (qaP l x) = 0 := by simpa using h
  simp only [cond_false, h', ne_eq, not_true_eq_false, false_or, bne_iff_ne]
 ·have h' : qb1 (qaP l x) ≠ 0 := by simpa using h
  simp only [cond_true, true_iff]
  exact .inl h'
def Sure (l : List Value) (x y : Iv) : Prop := qaF y = true ∧ x.lo ≤ y.lo ∧ y.hi ≤ x.hi ∧ qb3 l y = true
theorem srch_sound (X : Iv) : ∀ (k : Nat) (x : Iv) (d : Int) (u v : List Iv), qaF x = true → X.lo ≤ x.lo → x.hi ≤ X.hi → (∀ y ∈ u, Sure l X y) → (srch l (sl l) k x d u v).1 = true →
  (∀ y ∈ (srch l (sl l) k x d u v).2.1, Sure l X y) ∧ (∀ y ∈ u, y ∈ (srch l (sl l) k x d u v).2.1) ∧ (∀ y ∈ v, y ∈ (srch l (sl l) k x d u v).2.2) ∧
  ∀ n, x.lo ≤ n ∧ n ≤ x.hi → evp (pp l) (fx n) = 0 → (∃ y ∈ (srch l (sl l) k x d u v).2.1, y.lo ≤ n ∧ n ≤ y.hi) ∨ ∃ y ∈ (srch l (sl l) k x d u v).2.2, y.lo ≤ n ∧ n ≤ y.hi := by
 intro k
 induction k with
 | zero => intro x d u v _ _ _ _ h; simp [srch] at h
 | succ k ih =>
  intro x d u v hx i1 i2 hu
  obtain ⟨e, a, b⟩ := midI_val hx
  obtain ⟨o1, o2⟩ := parts_ok hx
  unfold srch
  cases h1 : qe4 l (sl l) x with
  | true =>
   intro _
   refine ⟨hu, fun y hy => hy, fun y hy => hy, fun n hn hz => ?_⟩
   exact absurd hz (no_root hP ⟨a, b⟩ hn ((rootless_val hP hx).1 h1))
  | false =>
  rw [qiX l (qg5 hP)]
  cases h2 : qb3 l x with
  | true =>
   intro _
   simp only [cond_true, cond_false]
   refine ⟨fun y hy => ?_, fun y hy => List.mem_append_left _ hy, fun y hy => hy, fun n hn _ => .inl ⟨x, by simp, hn⟩⟩
   rcases List.mem_append.1 hy with q | q
   ·exact hu y q
   ·simp only [List.mem_singleton] at q
    subst q
    exact ⟨hx, i1, i2, h2⟩
  | false =>
  cases h3 : d == 0 || decide (qdF x < 2) with
  | true =>
   intro _
   simp only [cond_true, cond_false]
   exact ⟨hu, fun y hy => hy, fun y hy => List.mem_append_left _ hy, fun n hn _ => .inr ⟨x, by simp, hn⟩⟩
  | false =>
   simp only [cond_false]
   cases h4 : (srch l (sl l) k ⟨x.lo, qaR x⟩ (d - 1) u v).1 with
   | false => intro h; cases h
   | true =>
    simp only [cond_true]
    intro h5
    obtain ⟨a1, a2, a3, a4⟩ := ih ⟨x.lo, qaR x⟩ (d - 1) u v o1 i1 (by simp only; omega) hu h4
    obtain ⟨b1, b2, b3, b4⟩ := ih ⟨qaR x, x.hi⟩ (d - 1) _ _ o2 (by simp only; omega) i2 a1 h5
    refine ⟨b1, fun y hy => b2 y (a2 y hy), fun y hy => b3 y (a3 y hy), fun n hn hz => ?_⟩
    by_cases q : n ≤ qaR x
    ·rcases a4 n ⟨hn.1, q⟩ hz with ⟨y, hy, hy2⟩ | ⟨y, hy, hy2⟩
     ·exact .inl ⟨y, b2 y hy, hy2⟩
     ·exact .inr ⟨y, b3 y hy, hy2⟩
    ·exact b4 n ⟨by simp only; omega, hn.2⟩ hz
end
structure Ends (x L H : Iv) : Prop where
 a : L.lo ≤ x.lo
 b : x.lo ≤ L.hi
 c : H.lo ≤ x.hi
 d : x.hi ≤ H.hi
theorem qhY (a b : Int) : hmid a b = (a + b) / 2 := rfl
section
variable {cs : List Int} (hP : Pol (rw' cs)) (h1 : 2 ≤ cs.length ∧ cs.length ≤ 17)
include hP h1
theorem inc_x {x L H : Iv} (hx : qaF x = true) (hE : Ends x L H) : Inc x ⟨L.lo, H.hi⟩ := fun _ => ⟨hx, hE.a, hE.d⟩
theorem rl_rootless {x L H : Iv} (hx : qaF x = true) (hE : Ends x L H) (h : Rt.rl (cs.map pt) (hder (cs.map pt)) L H = true) : qe4 (rw' cs) (sl (rw' cs)) x = true := by
 have hh := (qcM _).1 hx
 have q1 := hE.a
 have q2 := hE.b
 have q3 := hE.c
 have q4 := hE.d
 refine (rootless_val hP hx).2 (.inr ?_)
 have im : Inc ⟨(x.lo + x.hi) / 2, (x.lo + x.hi) / 2⟩ ⟨hmid L.lo H.lo, hmid L.hi H.hi⟩ := fun _ => ⟨(qcM _).2 (by simp only; omega), by simp only [qhY]; omega, by simp only [qhY]; omega⟩
 have key := inc_add (inc_val cs im ⟨by omega, h1.2⟩) (inc_mul (inc_slope cs hP.der (inc_x hP h1 hx hE) h1) (inc_sub (inc_x hP h1 hx hE) im))
 simp only [Rt.rl] at h
 have hs : hsgn (hadd (hor ⟨hmid L.lo H.lo, hmid L.hi H.hi⟩ (cs.map pt)) (hmul (hor ⟨L.lo, H.hi⟩ (hder (cs.map pt))) (hsub ⟨L.lo, H.hi⟩ ⟨hmid L.lo H.lo, hmid L.hi H.hi⟩))) ≠ 0 := by
  intro e
  rw [e] at h
  simp [isz] at h
 rw [inc_sign key hs]
 exact hs
theorem un_unique {x L H : Iv} (hx : qaF x = true) (hE : Ends x L H) (h : un (cs.map pt) (hder (cs.map pt)) L H = true) : qb3 (rw' cs) x = true := by
 have hh := (qcM _).1 hx
 have q1 := hE.a
 have q2 := hE.b
 have q3 := hE.c
 have q4 := hE.d
 simp only [un, Bool.and_eq_true, Bool.not_eq_true', isz_iff] at h
 obtain ⟨s1, s2⟩ := h
 have s1' : hsgn (hor ⟨L.lo, H.hi⟩ (hder (cs.map pt))) ≠ 0 := fun e => by rw [e] at s1; simp [isz] at s1
 have s2' : hsgn (hor L (cs.map pt)) * hsgn (hor H (cs.map pt)) = -1 := by
  have : Int.add (Int.mul (hsgn (hor L (cs.map pt))) (hsgn (hor H (cs.map pt)))) (Int.ofNat 1) = hsgn (hor L (cs.map pt)) * hsgn (hor H (cs.map pt)) + 1 := rfl
  rw [this] at s2
  omega
 have sL : hsgn (hor L (cs.map pt)) ≠ 0 := fun e => by rw [e] at s2'; simp at s2'
 have sH : hsgn (hor H (cs.map pt)) ≠ 0 := fun e => by rw [e] at s2'; simp at s2'
 have iL : Inc (qbS x.lo) L := fun _ => by rw [atFix (by omega)]; exact ⟨(qcM _).2 (by simp only; omega), q1, q2⟩
 have iH : Inc (qbS x.hi) H := fun _ => by rw [atFix (by omega)]; exact ⟨(qcM _).2 (by simp only; omega), q3, q4⟩
 have vL := inc_sign (inc_val cs iL ⟨by omega, h1.2⟩) sL
 have vH := inc_sign (inc_val cs iH ⟨by omega, h1.2⟩) sH
 have vS := inc_sign (inc_slope cs hP.der (inc_x hP h1 hx hE) h1) s1'
 have hd := hP.der
 have hsl : qb1 (qaP (List.reverse (qaI (rw' cs)).1) x) ≠ 0 := by
  have := vS
  simp only [sl] at this
  rw [this]; exact s1'
 simp only [qb3, hd, hx, cond_true, qfE, qdJ, qaX, vL, vH]
 rcases qhX (hor L (cs.map pt)) with ⟨e, _⟩ | ⟨e, _⟩ | e
 ·rcases qhX (hor H (cs.map pt)) with ⟨e', _⟩ | ⟨e', _⟩ | e'
  ·rw [e, e'] at s2'; simp at s2'
  ·rw [e, e']; simp; exact hsl
  ·exact absurd e' sH
 ·rcases qhX (hor H (cs.map pt)) with ⟨e', _⟩ | ⟨e', _⟩ | e'
  ·rw [e, e']; simp; exact hsl
  ·rw [e, e'] at s2'; simp at s2'
  ·exact absurd e' sH
 ·exact absurd e sL
theorem hb_pos {L H : Iv} (k : Nat) (h2 : (Rt.rl (cs.map pt) (hder (cs.map pt)) L H) = false) : 1 ≤ hb (cs.map pt) (hder (cs.map pt)) k L H := by
 cases k with
 | zero => simp only [hb, h2, cond_false]; omega
 | succ k =>
  simp only [hb, h2, Bool.and_false, cond_false]
  cases Nat.ble k 3 && un (cs.map pt) (hder (cs.map pt)) L H
  ·simp only [cond_false]; exact Nat.le_max_left _ _
  ·simp only [cond_true]; omega
theorem srch_bound : ∀ (k : Nat) (j : Nat) (x L H : Iv) (u v : List Iv), qaF x = true → Ends x L H → u.length + v.length + hb (cs.map pt) (hder (cs.map pt)) k L H ≤ 64 →
  (srch (rw' cs) (sl (rw' cs)) (k + 1 + j) x (k : Int) u v).1 = true ∧ (srch (rw' cs) (sl (rw' cs)) (k + 1 + j) x (k : Int) u v).2.1.length + (srch (rw' cs) (sl (rw' cs)) (k + 1 + j) x (k : Int) u v).2.2.length ≤ u.length + v.length + hb (cs.map pt) (hder (cs.map pt)) k L H := by
 intro k
 induction k with
 | zero =>
  intro j x L H u v hx hE hb0
  rw [show 0 + 1 + j = j + 1 by omega]
  unfold srch
  cases c1 : qe4 (rw' cs) (sl (rw' cs)) x with
  | true => exact ⟨rfl, Nat.le_add_right _ _⟩
  | false =>
   have hr : Rt.rl (cs.map pt) (hder (cs.map pt)) L H = false := by
    cases q : Rt.rl (cs.map pt) (hder (cs.map pt)) L H
    ·rfl
    ·rw [rl_rootless hP h1 hx hE q] at c1; cases c1
   have hp := hb_pos hP h1 0 hr
   cases c2 : qaT (rw' cs) x with
   | true => simp only [cond_true, cond_false, List.length_append, List.length_singleton, decide_eq_true_eq]; omega
   | false => simp only [cond_true, cond_false, List.length_append, List.length_singleton, decide_eq_true_eq, Int.natCast_zero, beq_self_eq_true, Bool.true_or]; omega
 | succ k ih =>
  intro j x L H u v hx hE hb0
  rw [show k + 1 + 1 + j = (k + 1 + j) + 1 by omega]
  unfold srch
  cases c1 : qe4 (rw' cs) (sl (rw' cs)) x with
  | true => exact ⟨rfl, Nat.le_add_right _ _⟩
  | false =>
   have hr : Rt.rl (cs.map pt) (hder (cs.map pt)) L H = false := by
    cases q : Rt.rl (cs.map pt) (hder (cs.map pt)) L H
    ·rfl
    ·rw [rl_rootless hP h1 hx hE q] at c1; cases c1
   have hp := hb_pos hP h1 (k + 1) hr
   cases c2 : qaT (rw' cs) x with
   | true => simp only [cond_true, cond_false, List.length_append, List.length_singleton, decide_eq_true_eq]; omega
   | false =>
   have hu : un (cs.map pt) (hder (cs.map pt)) L H = false := by
    cases q : un (cs.map pt) (hder (cs.map pt)) L H
    ·rfl
    ·rw [qiX _ (qg5 hP), un_unique hP h1 hx hE q] at c2; cases c2
   cases c3 : ((k + 1 : Nat) : Int) == 0 || decide (qdF x < 2) with
   | true => simp only [cond_true, cond_false, List.length_append, List.length_singleton, decide_eq_true_eq]; omega
   | false =>
    simp only [cond_false]
    obtain ⟨e, a, b⟩ := midI_val hx
    obtain ⟨o1, o2⟩ := parts_ok hx
    have q1 := hE.a
    have q2 := hE.b
    have q3 := hE.c
    have q4 := hE.d
    have E1 : Ends ⟨x.lo, qaR x⟩ L ⟨hmid L.lo H.lo, hmid L.hi H.hi⟩ := ⟨q1, q2, by simp only [qhY]; omega, by simp only [qhY]; omega⟩
    have E2 : Ends ⟨qaR x, x.hi⟩ ⟨hmid L.lo H.lo, hmid L.hi H.hi⟩ H := ⟨by simp only [qhY]; omega, by simp only [qhY]; omega, q3, q4⟩
    simp only [hb, hr, hu, Bool.and_false, cond_false] at hb0 ⊢
    have t1 : Nat.add (hb (cs.map pt) (hder (cs.map pt)) k L ⟨hmid L.lo H.lo, hmid L.hi H.hi⟩) (hb (cs.map pt) (hder (cs.map pt)) k ⟨hmid L.lo H.lo, hmid L.hi H.hi⟩ H) = hb (cs.map pt) (hder (cs.map pt)) k L ⟨hmid L.lo H.lo, hmid L.hi H.hi⟩ + hb (cs.map pt) (hder (cs.map pt)) k ⟨hmid L.lo H.lo, hmid L.hi H.hi⟩ H := rfl
    have t2 : ∀ n : Nat, n ≤ Nat.max 1 n := fun n => Nat.le_max_right 1 n
    have t3 := t2 (Nat.add (hb (cs.map pt) (hder (cs.map pt)) k L ⟨hmid L.lo H.lo, hmid L.hi H.hi⟩) (hb (cs.map pt) (hder (cs.map pt)) k ⟨hmid L.lo H.lo, hmid L.hi H.hi⟩ H))
    generalize Nat.max 1 (Nat.add (hb (cs.map pt) (hder (cs.map pt)) k L ⟨hmid L.lo H.lo, hmid L.hi H.hi⟩) (hb (cs.map pt) (hder (cs.map pt)) k ⟨hmid L.lo H.lo, hmid L.hi H.hi⟩ H)) = M at *
    rw [t1] at t3
    have ed : ((k + 1 : Nat) : Int) - 1 = (k : Int) := by omega
    rw [ed]
    obtain ⟨g1, g2⟩ := ih j ⟨x.lo, qaR x⟩ L ⟨hmid L.lo H.lo, hmid L.hi H.hi⟩ u v o1 E1 (by omega)
    rw [g1]
    simp only [cond_true]
    obtain ⟨g3, g4⟩ := ih j ⟨qaR x, x.hi⟩ ⟨hmid L.lo H.lo, hmid L.hi H.hi⟩ H (srch (rw' cs) (sl (rw' cs)) (k + 1 + j) ⟨x.lo, qaR x⟩ (k : Int) u v).2.1 (srch (rw' cs) (sl (rw' cs)) (k + 1 + j) ⟨x.lo, qaR x⟩ (k : Int) u v).2.2 o2 E2 (by omega)
    exact ⟨g3, by omega⟩
end
end Go.Proofs.Ytogpbandlpjccaa.TX
