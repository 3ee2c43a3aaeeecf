/- Quarter turns, and the circle's series. -/
import Derived.Test.YtogpbandlpjccaaPA
set_option linter.unusedSimpArgs false
set_option linter.unusedVariables false
/- Products and quotients of intervals hold the products and quotients of their ends; so the circle's series meet the ring. -/
set_option linter.unusedSimpArgs false
set_option linter.unusedVariables false
namespace Go.G880
open Go Go.RX
theorem MulFloor32_val {a b : Int} (ha : In64 a) (hb : In64 b) : qeS a b 32 = if -9223372036854775808 ≤ a * b / 4294967296 ∧ a * b / 4294967296 ≤ 9223372036854775807 then (a * b / 4294967296, true) else (0, false) := by
 have ⟨h1, h2⟩ := qgT ha hb
 have e2 : qbT 32 0 126 = true := by decide
 have e3 := qiW (z := a * b / 4294967296) (by omega) (by omega)
 simp only [qeS, qgV ha hb, (Shift32 h1 h2).2, e2, e3, Bool.not_true, cond_false]
theorem qfK {a b : Int} (h : (qa4 a b).2 = true) : (qa4 a b).1 = a * b / 4294967296 ∧ qa2 a = true ∧ qa2 b = true := by
 simp only [qa4] at h ⊢
 cases ha : qa2 a
 ·rw [ha] at h; simp at h
 cases hb : qa2 b
 ·rw [ha, hb] at h; simp at h
 simp only [ha, hb, Bool.not_true, cond_false, MulFloor32_val (qeG ha) (qeG hb)] at h ⊢
 by_cases hr : -9223372036854775808 ≤ a * b / 4294967296 ∧ a * b / 4294967296 ≤ 9223372036854775807
 ·rw [if_pos hr] at h ⊢
  simp only [qdE, Bool.not_true, cond_false] at h ⊢
  cases hk : qa2 (a * b / 4294967296)
  ·rw [hk] at h; simp at h
  ·simp
 ·rw [if_neg hr] at h
  simp [qdE] at h
theorem qhQ {a b : Int} (h : (qbU a b).2 = true) : (qbU a b).1 = -((-a) * b / 4294967296) ∧ qa2 a = true := by
 simp only [qbU] at h ⊢
 cases ha : qa2 a
 ·rw [ha] at h; simp at h
 simp only [ha, Bool.not_true, cond_false, (qfJ ha).1] at h ⊢
 cases hd : (qa4 (-a) b).2
 ·rw [hd] at h; simp at h
 simp only [hd, Bool.not_true, cond_false] at h ⊢
 have hv := qfK hd
 have hok := (qeF _).1 (qh0 hd)
 rw [hv.1] at hok ⊢
 exact ⟨by rw [qc2 (by omega) (by omega)]; omega, trivial⟩
theorem min_le (x y : Int) : qa5 x y ≤ x ∧ qa5 x y ≤ y := by
 simp only [qa5, Bool.cond_eq_ite, decide_eq_true_eq]; split <;> omega
end Go.G880
/- The circle's series meet the ring. -/
set_option linter.unusedSimpArgs false
set_option linter.unusedVariables false
/- The sines of an interval: the turns that are kept in a list and taken up one after the other, and those that are taken up at once. -/
set_option linter.unusedSimpArgs false
set_option linter.unusedVariables false
/- Vectors that are turned. -/
set_option linter.unusedSimpArgs false
set_option linter.unusedVariables false
/- Roots of intervals; radii of curvature, and the meridian's arc. -/
set_option linter.unusedSimpArgs false
set_option linter.unusedVariables false
/- Polynomials: their signs at the ends of an interval. -/
set_option linter.unusedSimpArgs false
set_option linter.unusedVariables false
namespace Go.G880
open Go Go.RX
theorem dec_Index {l : List Value} {n v v' : Int} (hv : n = (l.length : Int) ∧ 0 ≤ v ∧ v ≤ (l.length : Int) ∧ (l.length : Int) ≤ 1048576) (hr : qaE.rnd2 l n v = Sum.inl v') :
  (n = (l.length : Int) ∧ 0 ≤ v' ∧ v' ≤ (l.length : Int) ∧ (l.length : Int) ≤ 1048576) ∧ ((l.length : Int) - v').toNat < ((l.length : Int) - v).toNat := by
 simp only [qaE.rnd2] at hr
 cases h1 : decide (v < n)
 ·rw [h1] at hr; simp at hr
 have h1' := of_decide_eq_true h1
 rw [h1, qc2 (n := v + 1) (by omega) (by omega)] at hr
 have key : v' = v + 1 := by
  cases h3 : (qaO (atIv l false v))
  ·rw [h3] at hr
   simp only [cond_true, cond_false, Sum.inl.injEq] at hr
   exact hr.symm
  ·rw [h3] at hr
   simp at hr
 omega
theorem dec_l09At {l : List Value} {xl xh : Int} {v v' : Int × Int × Int} (hv : -1 ≤ v.1 ∧ v.1 < (l.length : Int) ∧ (l.length : Int) ≤ 1048576) (hr : qaP.rnd3 l xl xh v.1 v.2.1 v.2.2 = Sum.inl v') :
  (-1 ≤ v'.1 ∧ v'.1 < (l.length : Int) ∧ (l.length : Int) ≤ 1048576) ∧ (v'.1 + 1).toNat < (v.1 + 1).toNat := by
 simp only [qaP.rnd3] at hr
 cases h1 : decide (v.1 ≥ 0)
 ·rw [h1] at hr; simp at hr
 have h1' := of_decide_eq_true h1
 rw [h1, qc2 (n := v.1 - 1) (by omega) (by omega)] at hr
 simp only [cond_true, Sum.inl.injEq] at hr
 subst hr
 simp only []
 omega
theorem rnd_PolyAt : qaH.rnd5 = qaP.rnd3 := by
 funext l xl xh i pl ph
 simp only [qaH.rnd5, qaP.rnd3, AddI_eq, MulI_eq]
theorem dec_PolyAt {l : List Value} {xl xh : Int} {v v' : Int × Int × Int} (hv : -1 ≤ v.1 ∧ v.1 < (l.length : Int) ∧ (l.length : Int) ≤ 1048576) (hr : qaH.rnd5 l xl xh v.1 v.2.1 v.2.2 = Sum.inl v') :
  (-1 ≤ v'.1 ∧ v'.1 < (l.length : Int) ∧ (l.length : Int) ≤ 1048576) ∧ (v'.1 + 1).toNat < (v.1 + 1).toNat := dec_l09At hv (by rw [← rnd_PolyAt]; exact hr)
def allOk (l : List Value) (i : Nat) : Nat → Bool
 | 0 => true
 | n + 1 => qaF (atIv l false (i : Int)) && allOk l (i + 1) n
theorem l09_loop (l : List Value) (hl : (l.length : Int) ≤ 1048576) : ∀ (d f i : Nat), d < f → d + i = l.length →
  qiT (fun t1 => true) (fun t2 : Int × Bool => t2.2) (qh3 (fun v => qbK.rnd2 l v) f (i : Int)) = allOk l i d := by
 intro d
 induction d with
 | zero =>
  intro f i hf hi
  obtain ⟨f, rfl⟩ : ∃ m, f = m + 1 := ⟨f - 1, by omega⟩
  have h1 : decide ((i : Int) < (l.length : Int)) = false := decide_eq_false (by omega)
  rw [qh3]
  simp only [qbK.rnd2, h1, cond_false]
  rfl
 | succ d ih =>
  intro f i hf hi
  obtain ⟨f, rfl⟩ : ∃ m, f = m + 1 := ⟨f - 1, by omega⟩
  have h1 : decide ((i : Int) < (l.length : Int)) = true := decide_eq_true (by omega)
  have h2 : w64 ((i : Int) + 1) = ((i + 1 : Nat) : Int) := by rw [qc2 (by omega) (by omega)]; rfl
  rw [qh3]
  simp only [allOk]
  cases h3 : qaF (atIv l false (i : Int))
  ·have hs : qbK.rnd2 l (i : Int) = Sum.inr (Sum.inr ((i : Int), false)) := by
    simp only [qbK.rnd2, h1, h3, Bool.not_false, cond_true]
   rw [hs]; rfl
  ·have hs : qbK.rnd2 l (i : Int) = Sum.inl (((i + 1 : Nat) : Int)) := by
    simp only [qbK.rnd2, h1, h2, h3, Bool.not_true, cond_true, cond_false]
   rw [hs]
   simp only [Bool.true_and]
   exact ih f (i + 1) (by omega) (by omega)
theorem qhW (l : List Value) (hl : (l.length : Int) ≤ 1048576) : ∀ (d f i : Nat), d < f → d + i = l.length →
  decide (qiT (fun t1 => (-1 : Int)) (fun t2 : Int × Int => t2.2) (qh3 (fun v => qaE.rnd2 l (l.length : Int) v) f (i : Int)) ≥ 0) = !allOk l i d := by
 intro d
 induction d with
 | zero =>
  intro f i hf hi
  obtain ⟨f, rfl⟩ : ∃ m, f = m + 1 := ⟨f - 1, by omega⟩
  have h1 : decide ((i : Int) < (l.length : Int)) = false := decide_eq_false (by omega)
  rw [qh3]
  simp only [qaE.rnd2, h1, cond_false]
  rfl
 | succ d ih =>
  intro f i hf hi
  obtain ⟨f, rfl⟩ : ∃ m, f = m + 1 := ⟨f - 1, by omega⟩
  have h1 : decide ((i : Int) < (l.length : Int)) = true := decide_eq_true (by omega)
  have h2 : w64 ((i : Int) + 1) = ((i + 1 : Nat) : Int) := by rw [qc2 (by omega) (by omega)]; rfl
  rw [qh3]
  simp only [allOk]
  cases h3 : qaF (atIv l false (i : Int))
  ·have hs : qaE.rnd2 l (l.length : Int) (i : Int) = Sum.inr (Sum.inr ((i : Int), (i : Int))) := by
    simp only [qaE.rnd2, h1, qd1, h3, Bool.not_false, cond_true]
   rw [hs]
   simp only [qiT, Bool.false_and, Bool.not_false]
   exact decide_eq_true (by omega)
  ·have hs : qaE.rnd2 l (l.length : Int) (i : Int) = Sum.inl (((i + 1 : Nat) : Int)) := by
    simp only [qaE.rnd2, h1, h2, qd1, h3, Bool.not_true, cond_true, cond_false]
   rw [hs]
   simp only [Bool.true_and]
   exact ih f (i + 1) (by omega) (by omega)
theorem caseR_ok' {V : Type} (b : Bool) (s : V ⊕ (Int × Bool)) (h : ∀ q, s = .inr q → q.2 = false) : qiT (fun _ => b) (fun t2 : Int × Bool => t2.2) s = (qiT (fun _ => true) (fun t2 : Int × Bool => t2.2) s && b) := by
 cases s with
 | inl v => simp [qiT]
 | inr q => simp [qiT, h q rfl]
theorem l09_false (l : List Value) : ∀ (f : Nat) (i : Int) (q : Int × Bool), qh3 (fun v => qbK.rnd2 l v) f i = .inr q → q.2 = false := by
 intro f
 induction f with
 | zero => intro i q h; simp [qh3] at h
 | succ f ih =>
  intro i q h
  rw [qh3] at h
  simp only [qbK.rnd2] at h
  cases h1 : decide (i < (l.length : Int))
  ·rw [h1] at h; simp at h
  ·rw [h1] at h
   cases h2 : qaF (atIv l false i)
   ·rw [h2] at h
    simp only [Bool.not_false, cond_true, Sum.inr.injEq] at h
    rw [← h]
   ·rw [h2] at h
    simp only [Bool.not_true, cond_true, cond_false] at h
    exact ih _ q h
theorem qiK (l : List Value) (hl : (l.length : Int) ≤ 1048576) : qbK l = (allOk l 0 l.length && qbT (l.length : Int) 1 17) := by
 simp only [qbK, qbK.fin2]
 rw [caseR_ok' _ _ (fun q hq => l09_false l _ _ q hq)]
 congr 1
 exact l09_loop l hl l.length 1048577 0 (by omega) (by omega)
theorem qgO (l : List Value) (hl : (l.length : Int) ≤ 1048576) : qaQ l = qbK l := by
 rw [qiK l hl]
 have h0 : qbD l () = !allOk l 0 l.length := qhW l hl l.length 1048577 0 (by omega) (by omega)
 simp only [qaQ, qdT, qiA, h0]
 cases allOk l 0 l.length <;> cases qbT (l.length : Int) 1 17 <;> rfl
theorem qhL {l : List Value} (hl : (l.length : Int) ≤ 1048576) (h : qbK l = true) : 1 ≤ (l.length : Int) ∧ (l.length : Int) ≤ 17 := by
 rw [qiK l hl, Bool.and_eq_true] at h
 exact (qdS _ _ _).1 h.2
theorem qhU {l : List Value} (hpre : decide ((l.length : Int) ≤ 1048576) = true) (h : (!(qaQ l)) = false) : 1 ≤ (l.length : Int) ∧ (l.length : Int) ≤ 17 := by
 have hl := of_decide_eq_true hpre
 rw [qgO l hl] at h
 exact qhL hl (by simpa using h)
theorem qf4 {l : List Value} (hl : (l.length : Int) ≤ 1048576) (hv : qbK l = true) {x : Iv} (hx : qaF x = true) : qaH l x = qaP l x := by
 simp only [qaH, qaP, qaH.fin5, qaP.fin3, qgO l hl, hv, qd1, hx, Bool.not_true, cond_false, rnd_PolyAt]
theorem PolyAt_no {l : List Value} (hl : (l.length : Int) ≤ 1048576) (x : Iv) (hv : qbK l = false) : qaH l x = qaZ := by
 simp only [qaH, qgO l hl, hv, Bool.not_false, cond_true, qgI]
theorem SignI_eq (x : Iv) : qcX x = qb1 x := by
 simp only [qcX, qb1, qd1]
theorem qgA (x : Iv) : qb1 x = 0 ∨ qb1 x = 1 ∨ qb1 x = -1 := by
 simp only [qb1, Bool.cond_eq_ite]
 (repeat' split) <;> simp
theorem qiF {l : List Value} (hl : (l.length : Int) ≤ 1048576) (hv : qbK l = true) {n : Int} (hn : -1152921504606846976 < n ∧ n < 1152921504606846976) : qb0 l n = qaX l n := by
 have e : qbW n = qbS n := by
  simp only [qbW, qbS]
  rw [qg6 (by omega)]
 have hok : qaF (qbS n) = true := by rw [← e]; exact (qcM _).2 (by simp only [qbW]; omega)
 simp only [qb0, qaX, SignI_eq, e, qf4 hl hv hok]
theorem SignChange_eq (l : List Value) (hl : (l.length : Int) ≤ 1048576) (x : Iv) : qcJ l x = qgE l x := by
 simp only [qcJ, qgE, qd1]
 cases hv : qbK l
 ·cases hx : qaF x
  ·rfl
  ·have h0 : ∀ n, qb0 l n = 0 := fun n => by simp only [qb0, PolyAt_no hl _ hv]; rfl
   simp only [h0, Bool.not_true, Bool.not_false, cond_true, cond_false]
   rfl
 cases hx : qaF x
 ·rfl
 have hh := (qcM x).1 hx
 simp only [Bool.not_true, cond_false, qdJ, qiF hl hv (n := x.lo) (by omega), qiF hl hv (n := x.hi) (by omega)]
 have r1 := qgA (qaP l (qbS x.lo))
 have r2 := qgA (qaP l (qbS x.hi))
 simp only [qaX]
 rcases r1 with h1 | h1 | h1 <;> rcases r2 with h2 | h2 | h2 <;> rw [h1, h2] <;> rfl
end Go.G880
/- Polynomials: their derivatives, unique roots. -/
set_option linter.unusedSimpArgs false
set_option linter.unusedVariables false
namespace Go.G880
open Go Go.RX
theorem ider_step {l : List Value} {n : Int} {v v' : Int × List Value} (hr : qaB.rnd7 l n v.1 v.2 = Sum.inl v') : v.1 < n ∧ v'.1 = w64 (v.1 + 1) ∧ v'.2.length = v.2.length + 1 := by
 simp only [qaB.rnd7] at hr
 cases h1 : decide (v.1 < n)
 ·rw [h1] at hr; simp at hr
 rw [h1] at hr
 simp only [cond_true, Sum.inl.injEq] at hr
 subst hr
 exact ⟨of_decide_eq_true h1, rfl, rfl⟩
theorem dec_ider {l : List Value} {n : Int} {v v' : Int × List Value} (hv : n = ((l.length - 1 : Nat) : Int) ∧ 0 ≤ v.1 ∧ v.1 ≤ ((l.length - 1 : Nat) : Int) ∧ (v.2.length : Int) = v.1 ∧ (l.length : Int) ≤ 1048576) (hr : qaB.rnd7 l n v.1 v.2 = Sum.inl v') :
  (n = ((l.length - 1 : Nat) : Int) ∧ 0 ≤ v'.1 ∧ v'.1 ≤ ((l.length - 1 : Nat) : Int) ∧ (v'.2.length : Int) = v'.1 ∧ (l.length : Int) ≤ 1048576) ∧ (((l.length - 1 : Nat) : Int) - v'.1).toNat < (((l.length - 1 : Nat) : Int) - v.1).toNat := by
 obtain ⟨h1, h2, h3⟩ := ider_step hr
 rw [qc2 (by omega) (by omega)] at h2
 omega
def oneD (l : List Value) (k : Nat) : Value := let t := qdQ (qa7 ((k + 1 : Nat) : Int)) (rowIv (nthR l false (k + 1))); .agg #[.int .i64 t.lo, .int .i64 t.hi]
def derD (l : List Value) (k : Nat) : Nat → List Value → List Value
 | 0, out => out
 | d + 1, out => derD l (k + 1) d (oneD l k :: out)
theorem qeW (l : List Value) : ∀ (d k : Nat) (out : List Value), (derD l k d out).length = d + out.length := by
 intro d
 induction d with
 | zero => intro k out; simp [derD]
 | succ d ih => intro k out; rw [derD, ih]; simp; omega
theorem sder_loop (l : List Value) (hl : (l.length : Int) ≤ 1048576) : ∀ (d f k : Nat) (out : List Value), d < f → d + (k + 1) = l.length →
  qd5 (fun v : Int × List Value => qaI.rnd5 l v.1 v.2) f (((k + 1 : Nat) : Int), out) = ((l.length : Int), derD l k d out) := by
 intro d
 induction d with
 | zero =>
  intro f k out hf hi
  obtain ⟨f, rfl⟩ : ∃ m, f = m + 1 := ⟨f - 1, by omega⟩
  have h1 : decide (((k + 1 : Nat) : Int) < (l.length : Int)) = false := decide_eq_false (by omega)
  rw [qd5]
  dsimp only
  simp only [qaI.rnd5, h1, cond_false, derD]
  rw [show ((k + 1 : Nat) : Int) = (l.length : Int) by omega]
 | succ d ih =>
  intro f k out hf hi
  obtain ⟨f, rfl⟩ : ∃ m, f = m + 1 := ⟨f - 1, by omega⟩
  have h1 : decide (((k + 1 : Nat) : Int) < (l.length : Int)) = true := decide_eq_true (by omega)
  have h2 : w64 (((k + 1 : Nat) : Int) + 1) = ((k + 1 + 1 : Nat) : Int) := by rw [qc2 (by omega) (by omega)]; rfl
  have e : atIv l false ((k + 1 : Nat) : Int) = rowIv (nthR l false (k + 1)) := rfl
  rw [qd5]
  dsimp only
  simp only [qaI.rnd5, h1, cond_true, h2, e, derD]
  exact ih f (k + 1) _ (by omega) (by omega)
theorem ider_loop (l : List Value) (hl : (l.length : Int) ≤ 1048576) : ∀ (d f k : Nat) (out : List Value), d < f → d + (k + 1) = l.length →
  qd5 (fun v : Int × List Value => qaB.rnd7 l ((l.length - 1 : Nat) : Int) v.1 v.2) f ((k : Int), out) = (((l.length - 1 : Nat) : Int), derD l k d out) := by
 intro d
 induction d with
 | zero =>
  intro f k out hf hi
  obtain ⟨f, rfl⟩ : ∃ m, f = m + 1 := ⟨f - 1, by omega⟩
  have h1 : decide ((k : Int) < ((l.length - 1 : Nat) : Int)) = false := decide_eq_false (by omega)
  rw [qd5]
  dsimp only
  simp only [qaB.rnd7, h1, cond_false, derD]
  rw [show (k : Int) = ((l.length - 1 : Nat) : Int) by omega]
 | succ d ih =>
  intro f k out hf hi
  obtain ⟨f, rfl⟩ : ∃ m, f = m + 1 := ⟨f - 1, by omega⟩
  have h1 : decide ((k : Int) < ((l.length - 1 : Nat) : Int)) = true := decide_eq_true (by omega)
  have h2 : w64 ((k : Int) + 1) = ((k + 1 : Nat) : Int) := by rw [qc2 (by omega) (by omega)]; rfl
  have e : atIvN l false (Int.toNat (k : Int) + 1) = rowIv (nthR l false (k + 1)) := by simp [atIvN]
  have hs : qaB.rnd7 l ((l.length - 1 : Nat) : Int) (k : Int) out = Sum.inl (((k + 1 : Nat) : Int), oneD l k :: out) := by
   simp only [qaB.rnd7, h1, cond_true, h2, e, MulI_eq, Integer_eq, oneD]
  rw [qd5]
  dsimp only
  rw [hs]
  exact ih f (k + 1) _ (by omega) (by omega)
theorem sder_fin (l : List Value) (hl : 1 ≤ (l.length : Int) ∧ (l.length : Int) ≤ 1048576) : qaI.fin5 l (1, []) = ((l.length : Int), derD l 0 (l.length - 1) []) := by
 rw [qaI.fin5]
 exact sder_loop l hl.2 (l.length - 1) 1048577 0 [] (by omega) (by omega)
theorem ider_fin (l : List Value) (hl : 1 ≤ (l.length : Int) ∧ (l.length : Int) ≤ 1048576) : qaB.fin7 l ((l.length - 1 : Nat) : Int) (0, []) = (((l.length - 1 : Nat) : Int), derD l 0 (l.length - 1) []) := by
 rw [qaB.fin7]
 exact ider_loop l hl.2 (l.length - 1) 1048577 0 [] (by omega) (by omega)
theorem contains_val (l : List Value) (hl : (l.length : Int) ≤ 1048576) : qbD l () = !allOk l 0 l.length := qhW l hl l.length 1048577 0 (by omega) (by omega)
theorem Der_eq (l : List Value) (hl : (l.length : Int) ≤ 1048576) : qaB l = qaI l := by
 simp only [qaB, qaI, qgO l hl]
 cases hv : qbK l
 ·rfl
 have hn := qhL hl hv
 have hn' : 1 ≤ (l.length : Int) ∧ (l.length : Int) ≤ 1048576 := by omega
 simp only [Bool.not_true, cond_false, sder_fin l hn', ider_fin l hn', Integer_eq]
 by_cases h1 : l.length = 1
 ·have e1 : ((l.length : Int) == 1) = true := by rw [h1]; rfl
  rw [h1] at e1 ⊢
  rfl
 ·have e1 : ((l.length : Int) == 1) = false := by simp only [beq_eq_false_iff_ne, ne_eq]; omega
  have e2 : (((derD l 0 (l.length - 1) []).length : Int) == 0) = false := by rw [qeW]; simp only [beq_eq_false_iff_ne, ne_eq, List.length_nil]; omega
  have e3 : decide (((derD l 0 (l.length - 1) []).length : Int) > 17) = false := by rw [qeW]; exact decide_eq_false (by simp only [List.length_nil]; omega)
  have e4 : ((List.reverse (derD l 0 (l.length - 1) [])).length : Int) ≤ 1048576 := by rw [List.length_reverse, qeW]; simp only [List.length_nil]; omega
  have e5 : qbT ((List.reverse (derD l 0 (l.length - 1) [])).length : Int) 1 17 = true := by
   rw [qdS, List.length_reverse, qeW]; simp only [List.length_nil]; omega
  simp only [e1, e2, e3, cond_false, contains_val _ e4, qiK _ e4, e5, Bool.and_true]
theorem pd_ider1 {l : List Value} (hpre : decide ((l.length : Int) ≤ 1048576) = true) (h : (!(qaQ l)) = false) (h2 : ((l.length : Int) == 1) = false) : decide (0 ≤ (1 : Int) ∧ (1 : Int) < (l.length : Int)) = true := by
 have h3 := qhU hpre h
 have h4 : ¬ (l.length : Int) = 1 := by simpa using h2
 exact decide_eq_true (by omega)
theorem pd_ider2 {l : List Value} (hpre : decide ((l.length : Int) ≤ 1048576) = true) : decide (((l.length - 1 : Nat) : Int) = ((l.length - 1 : Nat) : Int) ∧ 0 ≤ (0 : Int) ∧ (0 : Int) ≤ ((l.length - 1 : Nat) : Int) ∧ ((([] : List Value).length : Nat) : Int) = 0 ∧ (l.length : Int) ≤ 1048576) = true :=
 decide_eq_true ⟨rfl, by omega, by omega, by simp, of_decide_eq_true hpre⟩
theorem pd_ider3 {l : List Value} (hpre : decide ((l.length : Int) ≤ 1048576) = true) (h : (!(qaQ l)) = false) : decide (((List.reverse (qaB.fin7 l ((l.length - 1 : Nat) : Int) (0, [])).2).length : Int) ≤ 1048576) = true := by
 have h3 := qhU hpre h
 rw [ider_fin l (by omega), List.length_reverse, qeW]
 exact decide_eq_true (by simp only [List.length_nil]; omega)
theorem der_ok {l : List Value} (hl : (l.length : Int) ≤ 1048576) (h : ((qaI l).2 == 0) = true) : qbK l = true ∧ qbK (List.reverse (qaI l).1) = true ∧ ((List.reverse (qaI l).1).length : Int) ≤ 1048576 := by
 cases hv : qbK l
 ·simp only [qaI, hv, Bool.not_false, cond_true] at h
  cases h
 have hn := qhL hl hv
 have hn' : 1 ≤ (l.length : Int) ∧ (l.length : Int) ≤ 1048576 := by omega
 simp only [qaI, hv, Bool.not_true, cond_false, sder_fin l hn'] at h ⊢
 refine ⟨trivial, ?_⟩
 by_cases h1 : l.length = 1
 ·rw [h1, show derD l 0 (1 - 1) [] = [] from rfl]
  exact ⟨by decide +kernel, by decide +kernel⟩
 ·have e2 : (((derD l 0 (l.length - 1) []).length : Int) == 0) = false := by rw [qeW]; simp only [beq_eq_false_iff_ne, ne_eq, List.length_nil]; omega
  have e3 : decide (((derD l 0 (l.length - 1) []).length : Int) > 17) = false := by rw [qeW]; exact decide_eq_false (by simp only [List.length_nil]; omega)
  have e4 : ((List.reverse (derD l 0 (l.length - 1) [])).length : Int) ≤ 1048576 := by rw [List.length_reverse, qeW]; simp only [List.length_nil]; omega
  simp only [e2, e3, cond_false] at h ⊢
  cases h5 : qbK (List.reverse (derD l 0 (l.length - 1) []))
  ·rw [h5] at h; cases h
  ·simp only [Bool.not_true, cond_false]
   exact ⟨h5, e4⟩
theorem pd_iuni {l : List Value} (hpre : decide ((l.length : Int) ≤ 1048576) = true) (h : ((qaB l).2 == 0) = true) : decide (((List.reverse (qaB l).1).length : Int) ≤ 1048576) = true := by
 have hl := of_decide_eq_true hpre
 rw [Der_eq l hl] at h ⊢
 exact decide_eq_true (der_ok hl h).2.2
theorem qiX (l : List Value) (hl : (l.length : Int) ≤ 1048576) (x : Iv) : qaT l x = qb3 l x := by
 simp only [qaT, qb3, Der_eq l hl, SignChange_eq l hl]
 cases h : ((qaI l).2 == 0)
 ·rfl
 obtain ⟨h1, h2, h3⟩ := der_ok hl h
 simp only [cond_true, qgE, h1, Bool.not_true, cond_false, qfE]
 cases hx : qaF x
 ·rfl
 simp only [Bool.not_true, cond_false, cond_true, SignI_eq, qf4 h3 h2 hx]
end Go.G880
/- Polynomials: a root by bisection. -/
set_option linter.unusedSimpArgs false
set_option linter.unusedVariables false
namespace Go.G880
open Go Go.RX
theorem dec_ibis {l : List Value} {n : Int} {v v' : Int × Int × Int} (hv : 0 ≤ v.1 ∧ v.1 ≤ n ∧ n ≤ 60 ∧ (l.length : Int) ≤ 1048576) (hr : qaJ.rnd5 l n v.1 v.2.1 v.2.2 = Sum.inl v') :
  (0 ≤ v'.1 ∧ v'.1 ≤ n ∧ n ≤ 60 ∧ (l.length : Int) ≤ 1048576) ∧ (n - v'.1).toNat < (n - v.1).toNat := by
 simp only [qaJ.rnd5] at hr
 cases h1 : decide (v.1 < n)
 ·rw [h1] at hr; simp at hr
 have h1' := of_decide_eq_true h1
 rw [h1, qc2 (n := v.1 + 1) (by omega) (by omega)] at hr
 simp only [cond_true, Bool.cond_eq_ite] at hr
 have key : v'.1 = v.1 + 1 := by
  (repeat' split at hr) <;> first | (simp at hr; done) | (simp only [Sum.inl.injEq] at hr; rw [← hr])
 omega
theorem Ask_eq (l : List Value) (hl : (l.length : Int) ≤ 1048576) (x : Iv) (n : Int) : qbE l x n = qd7 l x n := by
 simp only [qbE, qbY, qd7, qgO l hl, qd1, qiA, qiX l hl]
 cases qbK l
 ·rfl
 cases qaF x
 ·rfl
 cases qbT n 0 60
 ·rfl
 cases qb3 l x <;> rfl
theorem ask_ok {l : List Value} (hl : (l.length : Int) ≤ 1048576) {x : Iv} {n : Int} (h : ((qd7 l x n) != 0) = false) : qbK l = true ∧ qaF x = true ∧ 0 ≤ n ∧ n ≤ 60 ∧ qb3 l x = true := by
 simp only [qd7] at h
 cases h1 : qbK l
 ·rw [h1] at h; cases h
 cases h2 : qaF x
 ·rw [h1, h2] at h; cases h
 cases h3 : qbT n 0 60
 ·rw [h1, h2, h3] at h; cases h
 cases h4 : qb3 l x
 ·rw [h1, h2, h3, h4] at h; cases h
 have := (qdS _ _ _).1 h3
 exact ⟨rfl, rfl, this.1, this.2, rfl⟩
theorem pd_ib {l : List Value} {x : Iv} {n : Int} (hpre : decide ((l.length : Int) ≤ 1048576) = true) (h : ((qbE l x n) != 0) = false) : decide (0 ≤ (0 : Int) ∧ (0 : Int) ≤ n ∧ n ≤ 60 ∧ (l.length : Int) ≤ 1048576) = true := by
 have hl := of_decide_eq_true hpre
 rw [Ask_eq l hl] at h
 obtain ⟨h1, h2, h3, h4, _⟩ := ask_ok hl h
 exact decide_eq_true (by omega)
theorem bis_loop (l : List Value) (hl : (l.length : Int) ≤ 1048576) (hv : qbK l = true) (low n : Int) (hn : n ≤ 60) : ∀ (f : Nat) (k lo hi : Int), 0 ≤ k → k ≤ n → qaF ⟨lo, hi⟩ = true → qaX l lo = low →
  (qd5 (fun v : Int × Int × Int => qaJ.rnd5 l n v.1 v.2.1 v.2.2) f (n - k, lo, hi)).2 = (qd5 (fun v : Int × Int × Int => qcW.rnd5 l low v.1 v.2.1 v.2.2) f (k, lo, hi)).2 := by
 intro f
 induction f with
 | zero => intro k lo hi _ _ _ _; rfl
 | succ f ih =>
  intro k lo hi h0 hkn hok hlow
  have hh := (qcM _).1 hok
  simp only at hh
  have hw : w64 (lo + hi) = lo + hi := qc2 (by omega) (by omega)
  have hm : Int.fdiv (lo + hi) 2 = (lo + hi) / 2 := qe6 _ (by omega)
  rw [qd5, qd5]
  dsimp only
  simp only [qaJ.rnd5, qcW.rnd5, qaR, qd1, hok, Bool.not_true, cond_false, hw, hm]
  by_cases hk : k = 0
  ·subst hk
   have e1 : decide (n - 0 < n) = false := decide_eq_false (by omega)
   have e2 : decide ((0 : Int) > 0) = false := rfl
   simp only [e1, e2, cond_false]
  have e1 : decide (n - k < n) = true := decide_eq_true (by omega)
  have e2 : decide (k > 0) = true := decide_eq_true (by omega)
  have hb1 : lo ≤ (lo + hi) / 2 := by omega
  have hb2 : (lo + hi) / 2 ≤ hi := by omega
  have e3 : qb0 l ((lo + hi) / 2) = qaX l ((lo + hi) / 2) := qiF hl hv (by omega)
  have e4 : qb0 l lo = low := by rw [qiF hl hv (by omega), hlow]
  have e5 : w64 (n - k + 1) = n - (k - 1) := by rw [qc2 (by omega) (by omega)]; omega
  have e6 : w64 (k - 1) = k - 1 := qc2 (by omega) (by omega)
  simp only [e1, e2, cond_true, e3, e4, e5, e6]
  cases c1 : ((lo + hi) / 2 == lo)
  case true => rfl
  cases c2 : ((lo + hi) / 2 == hi)
  case true => rfl
  cases c3 : (qaX l ((lo + hi) / 2) == 0)
  case true => rfl
  simp only [cond_false]
  cases c4 : (qaX l ((lo + hi) / 2) == low)
  ·simp only [cond_false]
   exact ih (k - 1) lo ((lo + hi) / 2) (by omega) (by omega) ((qcM _).2 (by simp only; omega)) hlow
  ·simp only [cond_true]
   exact ih (k - 1) ((lo + hi) / 2) hi (by omega) (by omega) ((qcM _).2 (by simp only; omega)) (by simpa using c4)
theorem Bisect_eq (l : List Value) (hl : (l.length : Int) ≤ 1048576) (x : Iv) (n : Int) : qaJ l x n = qcW l x n := by
 simp only [qaJ, qcW, Ask_eq l hl]
 cases h : ((qd7 l x n) != 0)
 case true => rfl
 obtain ⟨h1, h2, h3, h4, _⟩ := ask_ok hl h
 have := bis_loop l hl h1 (qaX l x.lo) n h4 62 n x.lo x.hi h3 (by omega) h2 rfl
 rw [Int.sub_self] at this
 simp only [cond_false, qaJ.fin5, qcW.fin5, this]
end Go.G880
/- Polynomials: Newton's method, what its walk asks for. -/
set_option linter.unusedSimpArgs false
set_option linter.unusedVariables false
namespace Go.G880
open Go Go.RX
theorem dec_inew {l s : List Value} {n : Int} {v v' : Int × Int × Int} (hv : 0 ≤ v.1 ∧ v.1 ≤ n ∧ n ≤ 60 ∧ (l.length : Int) ≤ 1048576 ∧ (s.length : Int) ≤ 1048576) (hr : qaG.rnd6 l s n v.1 v.2.1 v.2.2 = Sum.inl v') :
  (0 ≤ v'.1 ∧ v'.1 ≤ n ∧ n ≤ 60 ∧ (l.length : Int) ≤ 1048576 ∧ (s.length : Int) ≤ 1048576) ∧ (n - v'.1).toNat < (n - v.1).toNat := by
 simp only [qaG.rnd6] at hr
 cases h1 : decide (v.1 < n)
 ·rw [h1] at hr; simp at hr
 have h1' := of_decide_eq_true h1
 rw [h1, qc2 (n := v.1 + 1) (by omega) (by omega)] at hr
 simp only [cond_true, Bool.cond_eq_ite] at hr
 have key : v'.1 = v.1 + 1 := by
  (repeat' split at hr) <;> first | (simp at hr; done) | (simp only [Sum.inl.injEq] at hr; rw [← hr])
 omega
theorem ask_der {l : List Value} {x : Iv} {n : Int} (hl : (l.length : Int) ≤ 1048576) (h : ((qd7 l x n) != 0) = false) : ((qaI l).2 == 0) = true := by
 obtain ⟨_, _, _, _, hu⟩ := ask_ok hl h
 simp only [qb3] at hu
 cases hc : ((qaI l).2 == 0)
 ·rw [hc] at hu; cases hu
 ·rfl
theorem pd_in {l : List Value} {x : Iv} {n : Int} (hpre : decide ((l.length : Int) ≤ 1048576) = true) (h : ((qbE l x n) != 0) = false) :
  decide (0 ≤ (0 : Int) ∧ (0 : Int) ≤ n ∧ n ≤ 60 ∧ (l.length : Int) ≤ 1048576 ∧ ((qaB l).1.length : Int) ≤ 1048576) = true := by
 have hl := of_decide_eq_true hpre
 rw [Ask_eq l hl] at h
 obtain ⟨h1, h2, h3, h4, _⟩ := ask_ok hl h
 obtain ⟨_, g2, g3⟩ := der_ok hl (ask_der hl h)
 rw [Der_eq l hl]
 simp only [List.length_reverse] at g3
 exact decide_eq_true (by omega)
end Go.G880
