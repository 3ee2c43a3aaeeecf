/- The polynomial with given roots, as the program comes to it. -/
import Derived.Test.YtogpbandlpjccaaFZ
set_option linter.unusedVariables false
set_option linter.unusedSimpArgs false
namespace Go.Proofs.Ytogpbandlpjccaa.TX
open Go.RowKit Go.Proofs.YtogpbandlpjccaaW.PrintWords Go.Proofs.YtogpbandlpjccaaW.PrintLast Go.Proofs.YtogpbandlpjccaaW.PrintMore Go.G880.Rt Go.RX
def mkS (c : Int) : S31 := ⟨c * 4294967296, c * 4294967296⟩
def S (cs : List Int) : List S31 := cs.map mkS
theorem lenS_ (cs : List Int) : (S cs).length = cs.length := by simp [S]
theorem getS_ (cs : List Int) (n : Nat) : (S cs).getD n z31 = mkS (cs.getD n 0) := by
 by_cases h : n < cs.length
 ·simp [S, List.getD, h]
 ·simp [S, List.getD, h, mkS, z31]
theorem rows_S (cs : List Int) : qfF (S cs) = rw' cs := by simp [qfF, S, rw', mkS]
theorem okI_pt {c : Int} (h : -1000000 ≤ c ∧ c ≤ 1000000) : okI (c * 4294967296) (c * 4294967296) = true := decide_eq_true (by omega)
theorem mulI_pt {a b : Int} (ha : -1000000 ≤ a ∧ a ≤ 1000000) (hb : -1000000 ≤ b ∧ b ≤ 1000000) (hab : -1000000 ≤ a * b ∧ a * b ≤ 1000000) :
  mulI (a * 4294967296, a * 4294967296) (b * 4294967296, b * 4294967296) = (a * b * 4294967296, a * b * 4294967296) := by
 have ka : Go.G880.qaF ⟨a * 4294967296, a * 4294967296⟩ = true := (Go.G880.qcM _).2 (by simp only; omega)
 have kb : Go.G880.qaF ⟨b * 4294967296, b * 4294967296⟩ = true := (Go.G880.qcM _).2 (by simp only; omega)
 have fa := (fix_ok ka).1
 have fb := (fix_ok kb).1
 simp only at fa fb
 have e : a * 4294967296 * (b * 4294967296) = a * b * 4294967296 * 4294967296 := by
  rw [Int.mul_assoc, Int.mul_comm 4294967296 (b * 4294967296), ← Int.mul_assoc, ← Int.mul_assoc]
 generalize hv : a * b * 4294967296 = v at *
 have d1 : v * 4294967296 / 4294967296 = v := by omega
 have d2 : -(v * 4294967296) / 4294967296 = -v := by omega
 have d := qgC fa fb (by rw [e, d1]; omega)
 have u := qiY fa fb (by rw [e, d2]; omega)
 rw [e, d1] at d
 rw [e, d2, Int.neg_neg] at u
 have m1 : Go.G880.qa5 v v = v := by rw [min_eq]; split <;> rfl
 have m2 : Go.G880.qbC v v = v := by rw [max_eq]; split <;> rfl
 have m3 : Go.G880.qa5 1152921504606846976 v = v := by rw [min_eq, if_neg (by omega)]
 have m4 : Go.G880.qbC (-1152921504606846976) v = v := by rw [max_eq, if_neg (by omega)]
 have key : Go.G880.qbJ ⟨a * 4294967296, a * 4294967296⟩ ⟨b * 4294967296, b * 4294967296⟩ = ⟨v, v⟩ := by
  rw [Go.G880.MulI_eq]
  simp only [Go.G880.qdQ, ka, kb, d, u, Bool.not_true, cond_false, m1, m2, m3, m4]
  exact Go.G880.qg6 (by omega)
 unfold mulI
 rw [key]
theorem addI_pt {a b : Int} (ha : -1000000 ≤ a ∧ a ≤ 1000000) (hb : -1000000 ≤ b ∧ b ≤ 1000000) : addI (a * 4294967296, a * 4294967296) (b * 4294967296, b * 4294967296) = ((a + b) * 4294967296, (a + b) * 4294967296) := by
 have ka : Go.G880.qaF ⟨a * 4294967296, a * 4294967296⟩ = true := (Go.G880.qcM _).2 (by simp only; omega)
 have kb : Go.G880.qaF ⟨b * 4294967296, b * 4294967296⟩ = true := (Go.G880.qcM _).2 (by simp only; omega)
 have key : Go.G880.qbV ⟨a * 4294967296, a * 4294967296⟩ ⟨b * 4294967296, b * 4294967296⟩ = ⟨(a + b) * 4294967296, (a + b) * 4294967296⟩ := by
  rw [Go.G880.AddI_eq]
  simp only [Go.G880.qdZ, ka, kb, Bool.not_true, cond_false]
  rw [Go.G880.qc2 (by omega) (by omega), Go.G880.qg6 (by omega), Int.add_mul]
 unfold addI
 rw [key]
theorem qhV {n : Int} (h : -1000000 ≤ n ∧ n ≤ 1000000) : qa7.f n = some (n * 4294967296, n * 4294967296) := by
 have hr : Go.G880.qbT n (-268435455) 268435455 = true := (Go.G880.qdS _ _ _).2 (by omega)
 have e : Go.G880.qa7 n = ⟨n * 4294967296, n * 4294967296⟩ := by
  simp only [Go.G880.qa7, hr, Bool.not_true, cond_false]
  rw [Go.G880.qc2 (by omega) (by omega), Go.G880.qg6 (by omega)]
 unfold qa7.f
 rw [e]
section
variable {A : List Int} {r : Int} (h : mulOk A r = true)
include h
theorem mul_facts : (∀ j n, j ≤ A.length → n ≤ A.length → -1000000 ≤ cI A [-r, 1] j n ∧ cI A [-r, 1] j n ≤ 1000000) ∧ (∀ n, -1000000 ≤ A.getD n 0 ∧ A.getD n 0 ≤ 1000000) ∧ (-1000000 ≤ -r ∧ -r ≤ 1000000) ∧
  (∀ n, n < A.length → -1000000 ≤ A.getD n 0 * (-r) ∧ A.getD n 0 * (-r) ≤ 1000000) ∧ (List.range (A.length + 1)).map (fun j => cI A [-r, 1] j A.length) = mulc r A := by
 simp only [mulOk, Bool.and_eq_true] at h
 obtain ⟨⟨⟨⟨h1, h2⟩, h3⟩, h4⟩, h5⟩ := h
 refine ⟨fun j n hj hn => ?_, fun n => ?_, (qiD _).1 h3, fun n hn => ?_, eqI_eq h5⟩
 ·have a := List.all_eq_true.1 h1 j (List.mem_range.2 (by omega))
  exact (qiD _).1 (List.all_eq_true.1 a n (List.mem_range.2 (by omega)))
 ·by_cases hn : n < A.length
  ·have : A.getD n 0 = A[n] := by simp [List.getD, hn]
   rw [this]
   exact (qiD _).1 (List.all_eq_true.1 h2 _ (List.getElem_mem hn))
  ·have : A.getD n 0 = 0 := by simp [List.getD, hn]
   rw [this]; omega
 ·exact (qiD _).1 (List.all_eq_true.1 h4 n (List.mem_range.2 hn))
theorem coefN_pt (j : Nat) (hj : j ≤ A.length) : ∀ n, n ≤ A.length → coefN (S A) (S [-r, 1]) j n = (cI A [-r, 1] j n * 4294967296, cI A [-r, 1] j n * 4294967296) := by
 obtain ⟨h1, h2, h3, h4, h5⟩ := mul_facts h
 intro n
 induction n with
 | zero => intro _; rfl
 | succ n ih =>
  intro hn
  have i1 := h1 j n hj (by omega)
  have i2 := h1 j (n + 1) hj hn
  simp only [coefN, Go.G880.Rt.cI, lenS_] at i2 ⊢
  by_cases c : n ≤ j ∧ j - n < [-r, 1].length
  ·rw [if_pos c] at i2
   rw [if_pos c, if_pos c, ih (by omega), getS_, getS_]
   have hp : -1000000 ≤ A.getD n 0 * [-r, 1].getD (j - n) 0 ∧ A.getD n 0 * [-r, 1].getD (j - n) 0 ≤ 1000000 := by
    have c2 := c.2
    simp only [List.length_cons, List.length_nil] at c2
    by_cases e : j - n = 0
    ·rw [e]; exact h4 n (by omega)
    ·have : j - n = 1 := by omega
     rw [this]
     have := h2 n
     simp only [List.getD_cons_succ, List.getD_cons_zero, Int.mul_one]
     exact this
   have hb : -1000000 ≤ [-r, 1].getD (j - n) 0 ∧ [-r, 1].getD (j - n) 0 ≤ 1000000 := by
    have c2 := c.2
    simp only [List.length_cons, List.length_nil] at c2
    by_cases e : j - n = 0
    ·rw [e]; exact h3
    ·have : j - n = 1 := by omega
     rw [this]
     simp
   have m := mulI_pt (h2 n) hb hp
   show addI _ (mulI (A.getD n 0 * 4294967296, A.getD n 0 * 4294967296) ([-r, 1].getD (j - n) 0 * 4294967296, [-r, 1].getD (j - n) 0 * 4294967296)) = _
   rw [m, addI_pt i1 hp]
  ·rw [if_neg c, if_neg c, ih (by omega)]
theorem mulP_pt (hl : 1 ≤ A.length ∧ A.length ≤ 4) : mulP (S A) (S [-r, 1]) = (S (mulc r A), 0) := by
 obtain ⟨h1, h2, h3, h4, h5⟩ := mul_facts h
 have eo : outN (S A) (S [-r, 1]) ((S A).length + (S [-r, 1]).length - 1) = S (mulc r A) := by
  have el : (S A).length + (S [-r, 1]).length - 1 = A.length + 1 := by simp only [lenS_, List.length_cons, List.length_nil]; omega
  rw [← h5, el, outN, lenS_]
  show _ = List.map mkS _
  rw [List.map_map]
  apply List.map_congr_left
  intro j hj
  have hj' := List.mem_range.1 hj
  rw [coefN_pt h j (by omega) A.length (Nat.le_refl _)]
  rfl
 have okS : ∀ B : List Int, 1 ≤ B.length → B.length ≤ 17 → (∀ n (h : n < B.length), -1000000 ≤ B[n] ∧ B[n] ≤ 1000000) → okL (S B) = true := fun B b1 b2 hB => by
  unfold okL
  rw [rows_S, Go.G880.qgO _ (by rw [qf8]; omega)]
  refine l09_of _ (by rw [qf8]; omega) fun k hk => ?_
  rw [qf8] at hk
  rw [atIv_rw B hk]
  have := hB k hk
  exact (Go.G880.qcM _).2 (by simp only [pt]; omega)
 have oA : okL (S A) = true := okS A (by omega) (by omega) fun n hn => by
  have := h2 n
  rwa [show A.getD n 0 = A[n] by simp [List.getD, hn]] at this
 have oB : okL (S [-r, 1]) = true := okS [-r, 1] (by simp) (by simp) fun n hn => by
  match n, hn with
  | 0, _ => exact h3
  | 1, _ => simp
  | n + 2, hn => simp at hn; omega
 have oO : (S (mulc r A)).all okX = true := by
  refine List.all_eq_true.2 fun x hx => ?_
  obtain ⟨c, hc, rfl⟩ := List.mem_map.1 hx
  rw [← h5] at hc
  obtain ⟨j, hj, rfl⟩ := List.mem_map.1 hc
  exact okI_pt (h1 j A.length (by have := List.mem_range.1 hj; omega) (Nat.le_refl _))
 unfold mulP
 rw [if_pos ⟨oA, oB⟩, eo, if_pos oO, if_pos (by simp only [lenS_, List.length_cons, List.length_nil]; omega)]
end
theorem coefs_take {rs : List Int} {j : Nat} (h : j < rs.length) : qeC (rs.take (j + 1)) = mulc rs[j] (qeC (rs.take j)) := by
 rw [List.take_succ_eq_append_getElem h, qeC, List.foldl_append]
 rfl
theorem rd_int (xs : List Int) (i : Nat) (h : i < xs.length) : rd xs (i : Int) = xs[i] := by
 unfold rd; simp [List.getD, h]
theorem poly_loop {rs : List Int} (hl : rs.length ≤ 4) (hp : preOk rs = true) (hr : ∀ r ∈ rs, -4 ≤ r ∧ r ≤ 4) : ∀ m j, j + m = rs.length → Ev (fun k => qa3.l0 k rs (S (qeC (rs.take j))) (j : Int)) (S (qeC rs), true) := by
 intro m
 induction m with
 | zero =>
  intro j hj
  refine qhN fun k => ?_
  simp only [qa3.l0]
  rw [if_neg (by omega), show j = rs.length by omega, List.take_length]
 | succ m ih =>
  intro j hj
  have hj' : j < rs.length := by omega
  have hm := hr _ (List.getElem_mem hj')
  have ok : mulOk (qeC (rs.take j)) rs[j] = true := by
   have := List.all_eq_true.1 hp j (List.mem_range.2 hj')
   rwa [show rs.getD j 0 = rs[j] by simp [List.getD, hj']] at this
  have len : (qeC (rs.take j)).length = j + 1 := by rw [qgG, List.length_take]; omega
  have mp := mulP_pt ok (by omega)
  have e1 := impl_ev (S (qeC (rs.take j))) (S [-rs[j], 1]) (by rw [lenS_]; omega) (by rw [lenS_]; simp)
  rw [mp, ← coefs_take hj'] at e1
  have e2 := ih (j + 1) (by omega)
  refine Ev.step (fun k => ?_) (Ev.bind (f := fun k (bt : List S31 × Int) => if bt.2 = 0 then (if (bt.1.length : Int) = (wrap64 ((j : Int) + 2)) then (qa3.l0 k rs bt.1 (wrap64 ((j : Int) + 1))) else (some (([] : List (S31)), false))) else (some (([] : List (S31)), false))) e1 ?_)
  ·simp only [qa3.l0]
   rw [if_pos (by omega), if_pos (by omega), rd_int rs j hj', qcH (x := -rs[j]) (by omega) (by omega), qhV (by omega), Option.bind_some, qhV (by omega), Option.bind_some]
   rfl
  ·refine Ev.congr (fun k => ?_) e2
   simp only
   rw [if_pos trivial, lenS_, qgG, List.length_take, qcH (by omega) (by omega), qcH (by omega) (by omega), if_pos (by omega)]
   rfl
theorem poly_ev {rs : List Int} (hl : rs.length ≤ 4) (hp : preOk rs = true) (hr : ∀ r ∈ rs, -4 ≤ r ∧ r ≤ 4) : Ev (fun k => qa3.f k rs) (S (qeC rs), true) := by
 refine Ev.congr (fun k => ?_) (poly_loop hl hp hr rs.length 0 (by omega))
 simp only [qa3.f]
 rw [qhV (by omega), Option.bind_some]
 rfl
end Go.Proofs.Ytogpbandlpjccaa.TX
