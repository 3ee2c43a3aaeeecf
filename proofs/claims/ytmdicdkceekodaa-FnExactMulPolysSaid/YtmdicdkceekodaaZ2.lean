/- Products of polynomials: the reference and the program come to one list. -/
import Derived.Test.YtmdicdkceekodaaZ1
set_option linter.unusedVariables false
set_option linter.unusedSimpArgs false
namespace Go.Proofs.Ytmdicdkceekodaa.TX
open Go.RowKit Go.Proofs.YtmdicdkceekodaaW.PrintWords Go.Proofs.YtmdicdkceekodaaW.PrintLast Go.Proofs.YtmdicdkceekodaaW.PrintMore

def pr35 (x : S35) : Int × Int := (x.f0, x.f1)
def mk35 (p : Int × Int) : S35 := ⟨p.1, p.2⟩
def coefN (A B : List S35) (j : Nat) : Nat → Int × Int
  | 0 => (0, 0)
  | n + 1 => if n ≤ j ∧ j - n < B.length then addI (coefN A B j n) (mulI (pr35 (A.getD n z35)) (pr35 (B.getD (j - n) z35))) else coefN A B j n
theorem coefN_stop (A B : List S35) (j : Nat) : ∀ m, coefN A B j (j + 1 + m) = coefN A B j (j + 1) := by
  intro m
  induction m with
  | zero => rfl
  | succ m ih =>
    rw [← Nat.add_assoc]
    rw [coefN, if_neg (by omega), ih]
def outN (A B : List S35) (n : Nat) : List S35 := (List.range n).map fun j => mk35 (coefN A B j A.length)
theorem rd_nat (xs : List S35) (i : Nat) : rd_T35 xs (i : Int) = xs.getD i z35 := by
  unfold rd_T35; rw [Int.toNat_natCast]

theorem specL1 (A B x6 : List S35) (j : Nat) (hA : A.length ≤ 17) (hB : B.length ≤ 17) (hj : j ≤ 40) (h6 : x6.length ≤ 40) (R : List S35 × Int)
    (h : Ev (fun k => spec_MulPolys.l0 k A B (x6 ++ [mk35 (coefN A B j A.length)]) ((j : Int) + 1)) R) :
    ∀ m n, n + m = A.length → n ≤ j + 1 → Ev (fun k => spec_MulPolys.l1 k A B x6 (j : Nat) (n : Nat) (coefN A B j n).1 (coefN A B j n).2) R := by
  have fin : ∀ n, coefN A B j n = coefN A B j A.length → Ev (fun k => spec_MulPolys.j3 k A B x6 (j : Nat) (n : Nat) false (coefN A B j n).1 (coefN A B j n).2) R := by
    intro n e
    refine Ev.step (fun k => ?_) h
    simp only [spec_MulPolys.j3]
    rw [if_neg (by simp), if_pos (by omega), wrap_small (by omega) (by omega), ← e]
    rfl
  intro m
  induction m with
  | zero =>
    intro n hn hnj
    refine Ev.step (fun k => ?_) (fin n (by rw [show n = A.length by omega]))
    simp only [spec_MulPolys.l1]
    rw [if_neg (by omega)]
  | succ m ih =>
    intro n hn hnj
    by_cases hle : n ≤ j
    · refine Ev.step (f := fun k => spec_MulPolys.j3 k A B x6 (j : Nat) (n : Nat) true (coefN A B j n).1 (coefN A B j n).2) (fun k => ?_) ?_
      · simp only [spec_MulPolys.l1]
        rw [if_pos (by omega), decide_eq_true (by omega)]
      · obtain ⟨K, hK⟩ := ih (n + 1) (by omega) (by omega)
        refine ev_succ (K + 1) fun k hk => ?_
        obtain ⟨k', rfl⟩ : ∃ k', k = k' + 1 := ⟨k - 1, by omega⟩
        have e := hK (k' + 1) (by omega)
        simp only [spec_MulPolys.j3]
        rw [if_pos trivial, wrap_small (x := (j : Int) - (n : Int)) (by omega) (by omega), wrap_small (x := (n : Int) + 1) (by omega) (by omega)]
        by_cases hb : j - n < B.length
        · rw [if_pos (by omega), if_pos (by omega), if_pos (by omega), if_pos (by omega), specMul_f, Option.bind_some, specAdd_f, Option.bind_some, rd_nat, show (j : Int) - (n : Int) = ((j - n : Nat) : Int) by omega, rd_nat]
          have ec : coefN A B j (n + 1) = addI (coefN A B j n) (mulI (pr35 (A.getD n z35)) (pr35 (B.getD (j - n) z35))) := by
            rw [coefN, if_pos ⟨hle, hb⟩]
          rw [ec] at e
          simp only [Int.natCast_add, Int.natCast_one] at e
          exact e
        · rw [if_neg (by omega)]
          have ec : coefN A B j (n + 1) = coefN A B j n := by
            rw [coefN, if_neg (by omega)]
          rw [ec] at e
          simp only [Int.natCast_add, Int.natCast_one] at e
          exact e
    · have hn' : n = j + 1 := by omega
      refine Ev.step (fun k => ?_) (fin n (by rw [hn', ← coefN_stop A B j (m + 1)]; congr 1; omega))
      simp only [spec_MulPolys.l1]
      rw [if_pos (by omega), decide_eq_false (by omega)]

def mulP (A B : List S35) : List S35 × Int := if okL A = true ∧ okL B = true then (if A.length + B.length - 1 ≤ 17 then (if (outN A B (A.length + B.length - 1)).all okX = true then (outN A B (A.length + B.length - 1), 0) else ([], 9)) else ([], 5)) else ([], 1)
theorem okL_len {l : List S35} (h : okL l = true) : 1 ≤ l.length ∧ l.length ≤ 17 := by
  unfold okL at h
  simp at h
  exact h.2
theorem mulP_short (A B : List S35) : (mulP A B).1.length ≤ 17 := by
  unfold mulP
  split
  · split
    · split
      · simp [outN]; omega
      · simp
    · simp
  · simp

theorem outN_succ (A B : List S35) (j : Nat) : outN A B (j + 1) = outN A B j ++ [mk35 (coefN A B j A.length)] := by
  unfold outN
  rw [List.range_succ, List.map_append]
  rfl
theorem specL0 (A B : List S35) (hA1 : 1 ≤ A.length) (hA : A.length ≤ 17) (hB1 : 1 ≤ B.length) (hB : B.length ≤ 17) (hN : A.length + B.length - 1 ≤ 17) : ∀ m j, j + m = A.length + B.length - 1 →
    Ev (fun k => spec_MulPolys.l0 k A B (outN A B j) (j : Nat)) (if (outN A B (A.length + B.length - 1)).all okX = true then (outN A B (A.length + B.length - 1), 0) else ([], 9)) := by
  intro m
  induction m with
  | zero =>
    intro j hj
    have e := l09End_ev (outN A B j) (by simp [outN]; omega) (by simp [outN]; omega)
    rw [show j = A.length + B.length - 1 by omega] at e ⊢
    refine Ev.step (fun k => ?_) e
    simp only [spec_MulPolys.l0]
    rw [wrap_small (x := (A.length : Int) + (B.length : Int)) (by omega) (by omega), wrap_small (by omega) (by omega), if_neg (by omega)]
    cases spec_l09End.f k (outN A B (A.length + B.length - 1)) <;> rfl
  | succ m ih =>
    intro j hj
    have e := ih (j + 1) (by omega)
    rw [outN_succ] at e
    have f := specL1 A B (outN A B j) j hA hB (by omega) (by simp [outN]; omega) _ e A.length 0 (by omega) (by omega)
    refine Ev.step (fun k => ?_) f
    simp only [spec_MulPolys.l0]
    rw [wrap_small (x := (A.length : Int) + (B.length : Int)) (by omega) (by omega), wrap_small (by omega) (by omega), if_pos (by omega), integer0, Option.bind_some]
    rfl
theorem spec_ev (A B : List S35) (hA : A.length ≤ 2000000) (hB : B.length ≤ 2000000) : Ev (fun k => spec_MulPolys.f k A B) (mulP A B) := by
  obtain ⟨K1, h1⟩ := l09Ok_ev A hA
  obtain ⟨K2, h2⟩ := l09Ok_ev B hB
  by_cases hok : okL A = true ∧ okL B = true
  · have lA := okL_len hok.1
    have lB := okL_len hok.2
    by_cases hN : A.length + B.length - 1 ≤ 17
    · obtain ⟨K3, h3⟩ := specL0 A B lA.1 lA.2 lB.1 lB.2 hN _ 0 (Nat.zero_add _)
      refine ⟨K1 + K2 + K3 + 1, fun k hk => ?_⟩
      obtain ⟨k', rfl⟩ : ∃ k', k = k' + 1 := ⟨k - 1, by omega⟩
      have e1 := h1 (k' + 1) (by omega)
      have e2 := h2 (k' + 1) (by omega)
      have e3 := h3 k' (by omega)
      simp only at e1 e2 e3
      simp only [spec_MulPolys.f]
      rw [e1, Option.bind_some, hok.1, if_pos rfl, e2, Option.bind_some, hok.2]
      simp only [spec_MulPolys.j0]
      rw [if_neg (by simp), wrap_small (x := (A.length : Int) + (B.length : Int)) (by omega) (by omega), wrap_small (by omega) (by omega), if_neg (by omega)]
      unfold mulP
      rw [if_pos hok, if_pos hN]
      exact e3
    · refine ⟨K1 + K2 + 1, fun k hk => ?_⟩
      obtain ⟨k', rfl⟩ : ∃ k', k = k' + 1 := ⟨k - 1, by omega⟩
      have e1 := h1 (k' + 1) (by omega)
      have e2 := h2 (k' + 1) (by omega)
      simp only at e1 e2
      simp only [spec_MulPolys.f]
      rw [e1, Option.bind_some, hok.1, if_pos rfl, e2, Option.bind_some, hok.2]
      simp only [spec_MulPolys.j0]
      rw [if_neg (by simp), wrap_small (x := (A.length : Int) + (B.length : Int)) (by omega) (by omega), wrap_small (by omega) (by omega), if_pos (by omega)]
      unfold mulP
      rw [if_pos hok, if_neg hN]
  · refine ⟨K1 + K2 + 1, fun k hk => ?_⟩
    obtain ⟨k', rfl⟩ : ∃ k', k = k' + 1 := ⟨k - 1, by omega⟩
    have e1 := h1 (k' + 1) (by omega)
    have e2 := h2 (k' + 1) (by omega)
    simp only at e1 e2
    simp only [spec_MulPolys.f]
    rw [e1, Option.bind_some]
    unfold mulP
    rw [if_neg hok]
    by_cases hA' : okL A = true
    · have hB' : okL B = false := by
        cases hb : okL B
        · rfl
        · exact absurd ⟨hA', hb⟩ hok
      rw [hA', if_pos rfl, e2, Option.bind_some, hB']
      rfl
    · rw [if_neg hA']
      rfl

/-! ### The program -/
def st35 (A B : List S35) (i t : Nat) : List S35 := (List.range (A.length + B.length - 1)).map fun j => mk35 (coefN A B j (if i ≤ j ∧ j < i + t then i + 1 else i))
theorem st_len (A B : List S35) (i t : Nat) : (st35 A B i t).length = A.length + B.length - 1 := by simp [st35]
theorem st_get (A B : List S35) (i t j : Nat) (h : j < A.length + B.length - 1) : (st35 A B i t).getD j z35 = mk35 (coefN A B j (if i ≤ j ∧ j < i + t then i + 1 else i)) := by
  unfold st35
  simp [List.getD, h]
theorem st_next (A B : List S35) (i : Nat) : st35 A B i B.length = st35 A B (i + 1) 0 := by
  unfold st35
  apply List.map_congr_left
  intro j hj
  rw [if_neg (c := i + 1 ≤ j ∧ j < i + 1 + 0) (by omega)]
  by_cases h : i ≤ j ∧ j < i + B.length
  · rw [if_pos h]
  · rw [if_neg h, coefN, if_neg (by omega)]
theorem st_zero (A B : List S35) : st35 A B 0 0 = List.replicate (A.length + B.length - 1) z35 := by
  apply List.ext_getElem
  · simp [st35]
  · intro j h1 h2
    simp [st35, coefN, mk35, z35]
theorem st_out (A B : List S35) : st35 A B A.length 0 = outN A B (A.length + B.length - 1) := by
  unfold st35 outN
  apply List.map_congr_left
  intro j hj
  rw [if_neg (by omega)]
theorem st_set (A B : List S35) (i t : Nat) (ht : t < B.length) (hi : i < A.length) :
    (st35 A B i t).set (i + t) (mk35 (addI (coefN A B (i + t) i) (mulI (pr35 (A.getD i z35)) (pr35 (B.getD t z35))))) = st35 A B i (t + 1) := by
  apply List.ext_getElem
  · simp [st35]
  · intro j h1 h2
    have hj : j < A.length + B.length - 1 := by simpa [st35] using h2
    rw [List.getElem_set]
    by_cases e : i + t = j
    · subst e
      simp only [st35, List.getElem_map, List.getElem_range]
      rw [if_pos trivial, if_pos (by omega), coefN, if_pos (by omega), show i + t - i = t by omega]
    · simp only [st35, List.getElem_map, List.getElem_range]
      rw [if_neg e]
      by_cases h : i ≤ j ∧ j < i + t
      · rw [if_pos h, if_pos (by omega)]
      · rw [if_neg h, if_neg (by omega)]
theorem implL1 (A B : List S35) (i : Nat) (hA : A.length ≤ 17) (hB : B.length ≤ 17) (hi : i < A.length) (R : List S35 × Int)
    (h : Ev (fun k => impl_MulPolys.l0 k B (st35 A B (i + 1) 0) A (A.length : Nat) ((i : Int) + 1)) R) :
    ∀ m t, t + m = B.length → Ev (fun k => impl_MulPolys.l1 k B (st35 A B i t) (i : Nat) A (A.length : Nat) (i : Nat) B (B.length : Nat) (t : Nat) (A.getD i z35).f0 (A.getD i z35).f1) R := by
  intro m
  induction m with
  | zero =>
    intro t ht
    refine Ev.step (fun k => ?_) h
    simp only [impl_MulPolys.l1]
    rw [if_neg (by omega), wrap_small (by omega) (by omega), show t = B.length by omega, st_next]
  | succ m ih =>
    intro t ht
    refine Ev.step (fun k => ?_) (ih (t + 1) (by omega))
    simp only [impl_MulPolys.l1]
    rw [if_pos (by omega), if_pos (by omega), if_pos (by omega), wrap_small (x := (i : Int) + (t : Int)) (by omega) (by omega), wrap_small (x := (t : Int) + 1) (by omega) (by omega), if_pos (by omega), if_pos (by rw [st_len]; omega), implMul_f, Option.bind_some, implAdd_f, Option.bind_some, rd_nat, show (i : Int) + (t : Int) = ((i + t : Nat) : Int) by omega, rd_nat, st_get _ _ _ _ _ (by omega), if_neg (by omega), Int.toNat_natCast]
    have es := st_set A B i t (by omega) hi
    rw [← es]
    simp only [Int.natCast_add, Int.natCast_one]
    rfl
theorem implL0 (A B : List S35) (hA1 : 1 ≤ A.length) (hA : A.length ≤ 17) (hB1 : 1 ≤ B.length) (hB : B.length ≤ 17) (hN : A.length + B.length - 1 ≤ 17) : ∀ m i, i + m = A.length →
    Ev (fun k => impl_MulPolys.l0 k B (st35 A B i 0) A (A.length : Nat) (i : Nat)) (if (outN A B (A.length + B.length - 1)).all okX = true then (outN A B (A.length + B.length - 1), 0) else ([], 9)) := by
  intro m
  induction m with
  | zero =>
    intro i hi
    have e := known_ev (outN A B (A.length + B.length - 1)) (by simp [outN]; omega)
    refine Ev.step (fun k => ?_) e
    simp only [impl_MulPolys.l0]
    rw [if_neg (by omega), show i = A.length by omega, st_out]
    cases impl_known.f k (outN A B (A.length + B.length - 1)) <;> rfl
  | succ m ih =>
    intro i hi
    have e := ih (i + 1) (by omega)
    have f := implL1 A B i hA hB (by omega) _ (by simpa only [Int.natCast_add, Int.natCast_one] using e) B.length 0 (by omega)
    refine Ev.step (fun k => ?_) f
    simp only [impl_MulPolys.l0]
    rw [if_pos (by omega), if_pos (by omega), if_pos (by omega), rd_nat]
    rfl
theorem impl_ev (A B : List S35) (hA : A.length ≤ 2000000) (hB : B.length ≤ 2000000) : Ev (fun k => impl_MulPolys.f k A B) (mulP A B) := by
  obtain ⟨K1, h1⟩ := validPoly_ev A hA
  obtain ⟨K2, h2⟩ := validPoly_ev B hB
  by_cases hok : okL A = true ∧ okL B = true
  · have lA := okL_len hok.1
    have lB := okL_len hok.2
    by_cases hN : A.length + B.length - 1 ≤ 17
    · obtain ⟨K3, h3⟩ := implL0 A B lA.1 lA.2 lB.1 lB.2 hN _ 0 (Nat.zero_add _)
      refine ⟨K1 + K2 + K3 + 1, fun k hk => ?_⟩
      obtain ⟨k', rfl⟩ : ∃ k', k = k' + 1 := ⟨k - 1, by omega⟩
      have e1 := h1 (k' + 1) (by omega)
      have e2 := h2 (k' + 1) (by omega)
      have e3 := h3 k' (by omega)
      simp only at e1 e2 e3
      simp only [impl_MulPolys.f]
      rw [e1, Option.bind_some, hok.1, if_pos rfl, e2, Option.bind_some, hok.2]
      simp only [impl_MulPolys.j0]
      rw [if_neg (by simp), wrap_small (x := (A.length : Int) + (B.length : Int)) (by omega) (by omega), wrap_small (by omega) (by omega), if_neg (by omega), if_pos (by omega), if_pos (by omega), show ((A.length : Int) + (B.length : Int) - 1).toNat = A.length + B.length - 1 by omega, ← st_zero]
      unfold mulP
      rw [if_pos hok, if_pos hN]
      exact e3
    · refine ⟨K1 + K2 + 1, fun k hk => ?_⟩
      obtain ⟨k', rfl⟩ : ∃ k', k = k' + 1 := ⟨k - 1, by omega⟩
      have e1 := h1 (k' + 1) (by omega)
      have e2 := h2 (k' + 1) (by omega)
      simp only at e1 e2
      simp only [impl_MulPolys.f]
      rw [e1, Option.bind_some, hok.1, if_pos rfl, e2, Option.bind_some, hok.2]
      simp only [impl_MulPolys.j0]
      rw [if_neg (by simp), wrap_small (x := (A.length : Int) + (B.length : Int)) (by omega) (by omega), wrap_small (by omega) (by omega), if_pos (by omega)]
      unfold mulP
      rw [if_pos hok, if_neg hN]
  · refine ⟨K1 + K2 + 1, fun k hk => ?_⟩
    obtain ⟨k', rfl⟩ : ∃ k', k = k' + 1 := ⟨k - 1, by omega⟩
    have e1 := h1 (k' + 1) (by omega)
    have e2 := h2 (k' + 1) (by omega)
    simp only at e1 e2
    simp only [impl_MulPolys.f]
    rw [e1, Option.bind_some]
    unfold mulP
    rw [if_neg hok]
    by_cases hA' : okL A = true
    · have hB' : okL B = false := by
        cases hb : okL B
        · rfl
        · exact absurd ⟨hA', hb⟩ hok
      rw [hA', if_pos rfl, e2, Option.bind_some, hB']
      rfl
    · rw [if_neg hA']
      rfl

/-! ### The law -/
theorem eqS_loop (l : List S35) (hl : l.length ≤ 2000000) : ∀ m i, i + m = l.length → Ev (fun k => laws_eqIntervalS.l0 k l l (i : Nat)) true := by
  intro m
  induction m with
  | zero =>
    intro i hi
    refine ev_of_all fun k => ?_
    simp only [laws_eqIntervalS.l0]
    rw [if_neg (by omega)]
  | succ m ih =>
    intro i hi
    refine Ev.step (fun k => ?_) (ih (i + 1) (by omega))
    simp only [laws_eqIntervalS.l0, laws_eqInterval.f]
    rw [if_pos (by omega), if_pos (by omega), if_pos (by omega), if_pos trivial, if_pos trivial, Option.bind_some, if_pos rfl, wrap_small (by omega) (by omega)]
    rfl
theorem eqS_ev (l : List S35) (hl : l.length ≤ 2000000) : Ev (fun k => laws_eqIntervalS.f k l l) true := by
  refine Ev.congr (fun k => ?_) (eqS_loop l hl l.length 0 (by omega))
  unfold laws_eqIntervalS.f
  rw [if_pos rfl]
  rfl
def marks (x : Int) : Nat → List S35
  | 0 => []
  | n + 1 => ⟨x, x + 1⟩ :: marks (x + 2) n
theorem getD_mid (pre rest : List S35) (b : S35) : (pre ++ b :: rest).getD pre.length z35 = b := by simp [List.getD]
theorem mark_loop : ∀ (rest pre : List S35) (x : Int), 0 ≤ x → x ≤ 1000000000 → pre.length + rest.length ≤ 2000000 → x + 2 * (rest.length : Int) ≤ 1000000000 →
    Ev (fun k => laws_markIntervalS.l0 k (pre ++ rest) x (pre.length : Nat)) (x + 2 * (rest.length : Int), pre ++ marks x rest.length) := by
  intro rest
  induction rest with
  | nil =>
    intro pre x h0 h1 hl hx
    refine ev_of_all fun k => ?_
    simp only [laws_markIntervalS.l0]
    rw [if_neg (by simp)]
    simp [marks]
  | cons b rest ih =>
    intro pre x h0 h1 hl hx
    simp only [List.length_cons] at hl hx
    have e := ih (pre ++ [⟨x, x + 1⟩]) (x + 2) (by omega) (by omega) (by simp; omega) (by omega)
    rw [List.append_assoc, List.singleton_append] at e
    have er : (x + 2 + 2 * (rest.length : Int), (pre ++ [(⟨x, x + 1⟩ : S35)]) ++ marks (x + 2) rest.length) = (x + 2 * ((b :: rest).length : Int), pre ++ marks x (b :: rest).length) := by
      simp only [List.length_cons, marks, List.append_assoc, List.singleton_append]
      congr 1
      push_cast
      omega
    rw [er] at e
    refine Ev.step (fun k => ?_) e
    simp only [laws_markIntervalS.l0]
    rw [if_pos (by simp; omega), if_pos (by omega), Option.bind_some, wrap_small (x := x + 1) (by omega) (by omega), wrap_small (x := x + 1 + 1) (by omega) (by omega), wrap_small (x := (pre.length : Int) + 1) (by omega) (by omega), rd_nat]
    simp only [Int.toNat_natCast, List.set_append_right _ _ (Nat.le_refl _), Nat.sub_self, List.set_cons_zero]
    rw [rd_nat, getD_mid]
    simp only [List.length_append, List.length_singleton, Int.natCast_add, Int.natCast_one]
    rw [show x + 1 + 1 = x + 2 by omega]
theorem mark_ev (l : List S35) (x : Int) (hl : l.length ≤ 2000000) (h0 : 0 ≤ x) (h1 : x ≤ 500000000) : Ev (fun k => laws_markIntervalS.f k l x) (x + 2 * (l.length : Int), marks x l.length) :=
  mark_loop l [] x h0 (by omega) (by simpa using hl) (by omega)
theorem held_loop : ∀ (n : Nat) (pre : List S35) (x : Int), 0 ≤ x → pre.length + n ≤ 2000000 → x + 2 * (n : Int) ≤ 1000000000 →
    Ev (fun k => laws_heldIntervalS.l0 k (pre ++ marks x n) x (pre.length : Nat)) (x + 2 * (n : Int)) := by
  intro n
  induction n with
  | zero =>
    intro pre x h0 hl hx
    refine ev_of_all fun k => ?_
    simp only [laws_heldIntervalS.l0]
    rw [if_neg (by simp [marks])]
    simp
  | succ n ih =>
    intro pre x h0 hl hx
    have e := ih (pre ++ [⟨x, x + 1⟩]) (x + 2) (by omega) (by simp; omega) (by omega)
    rw [List.append_assoc, List.singleton_append, show x + 2 + 2 * (n : Int) = x + 2 * ((n + 1 : Nat) : Int) by omega] at e
    refine Ev.step (fun k => ?_) e
    rw [show marks x (n + 1) = ⟨x, x + 1⟩ :: marks (x + 2) n from rfl]
    simp only [laws_heldIntervalS.l0]
    rw [rd_nat, getD_mid]
    rw [if_pos (by simp; omega), if_pos (by omega), if_pos rfl, wrap_small (x := x + 1) (by omega) (by omega), if_pos rfl, wrap_small (by omega) (by omega), wrap_small (by omega) (by omega)]
    simp only [List.length_append, List.length_singleton, Int.natCast_add, Int.natCast_one]
    rw [show x + 1 + 1 = x + 2 by omega]
theorem held_ev (n : Nat) (x : Int) (hn : n ≤ 2000000) (h0 : 0 ≤ x) (h1 : x ≤ 500000000) : Ev (fun k => laws_heldIntervalS.f k (marks x n) x) (x + 2 * (n : Int)) :=
  held_loop n [] x h0 (by simpa using hn) (by omega)
theorem sz_pos (l : List S32) (a : Int) (h : (l.length : Int) ≤ a) (ha : a ≤ 1048576) : laws_szIntervalS.f l a = some (a - l.length) := by
  unfold laws_szIntervalS.f
  rw [wrap_small (by omega) (by omega), if_neg (by omega)]
theorem sz_neg (l : List S32) (a : Int) (h : a < (l.length : Int)) (h0 : 0 ≤ a) (hl : l.length ≤ 9223372036854775807) (ha : a ≤ 1048576) : laws_szIntervalS.f l a = some (-1) := by
  unfold laws_szIntervalS.f
  rw [wrap_small (by omega) (by omega), if_pos (by omega)]
theorem lawMulPolys (l0 l1 : List S32) (b0 : l0.length ≤ 9223372036854775807) (b1 : l1.length ≤ 9223372036854775807) : ∃ k, laws_FnExactMulPolys.f k l0 l1 = some true := by
  by_cases s0 : 1048576 < l0.length
  · refine ⟨0, ?_⟩
    unfold laws_FnExactMulPolys.f
    rw [sz_neg l0 _ (by omega) (by omega) b0 (by omega), Option.bind_some, if_pos (by omega)]
  by_cases s1 : 1048576 < l0.length + l1.length
  · refine ⟨0, ?_⟩
    unfold laws_FnExactMulPolys.f
    rw [sz_pos l0 _ (by omega) (by omega), Option.bind_some, if_neg (by omega), sz_neg l1 _ (by omega) (by omega) b1 (by omega), Option.bind_some, if_pos (by omega)]
  have cA : (l0.map conv).length = l0.length := by simp
  have cB : (l1.map conv).length = l1.length := by simp
  generalize hA : l0.map conv = A at cA
  generalize hB : l1.map conv = B at cB
  have hS := mulP_short A B
  have hS2 : (marks 1 (mulP A B).1.length).length = (mulP A B).1.length := by
    have : ∀ n x, (marks x n).length = n := by
      intro n
      induction n with
      | zero => intro x; rfl
      | succ n ih => intro x; simp [marks, ih]
    exact this _ _
  obtain ⟨K1, t0⟩ := toS_ev l0 (by omega)
  obtain ⟨K2, t1⟩ := toS_ev l1 (by omega)
  obtain ⟨K3, sp⟩ := spec_ev A B (by omega) (by omega)
  obtain ⟨K4, im⟩ := impl_ev A B (by omega) (by omega)
  obtain ⟨K5, q0⟩ := eqS_ev A (by omega)
  obtain ⟨K6, q1⟩ := eqS_ev B (by omega)
  obtain ⟨K7, q2⟩ := eqS_ev (mulP A B).1 (by omega)
  obtain ⟨K8, m0⟩ := mark_ev A 1 (by omega) (by omega) (by omega)
  obtain ⟨K9, m1⟩ := mark_ev B (1 + 2 * (A.length : Int)) (by omega) (by omega) (by omega)
  obtain ⟨K10, m2⟩ := mark_ev (mulP A B).1 1 (by omega) (by omega) (by omega)
  obtain ⟨K11, hd⟩ := held_ev (mulP A B).1.length 1 (by omega) (by omega) (by omega)
  simp only [hA, hB] at t0 t1
  simp only at sp im q0 q1 q2 m0 m1 m2 hd
  generalize hN : K1 + K2 + K3 + K4 + K5 + K6 + K7 + K8 + K9 + K10 + K11 = N
  have f2 : laws_FnExactMulPolys.j2 (N + 1) (marks 1 (mulP A B).1.length) (1 + 2 * ((mulP A B).1.length : Int)) false = some true := by
    simp only [laws_FnExactMulPolys.j2]
    rw [if_neg (by simp), hd N (by omega), Option.bind_some, if_neg (by omega), if_pos rfl]
  have f1 : laws_FnExactMulPolys.j1 (N + 2) l0 l1 (mulP A B).1 (mulP A B).2 (mulP A B).1 false = some true := by
    simp only [laws_FnExactMulPolys.j1]
    rw [if_neg (by simp), m2 (N + 1) (by omega), Option.bind_some, hd (N + 1) (by omega), Option.bind_some, if_neg (by omega), if_pos rfl, t0 (N + 1) (by omega), Option.bind_some, t1 (N + 1) (by omega), Option.bind_some, im (N + 1) (by omega), Option.bind_some, q2 (N + 1) (by omega), Option.bind_some, if_pos rfl, bne_self_eq_false]
    exact f2
  have f0 : laws_FnExactMulPolys.j0 (N + 3) l0 l1 (mulP A B).1 (mulP A B).2 A B (mulP A B).1 (mulP A B).2 false = some true := by
    simp only [laws_FnExactMulPolys.j0]
    rw [if_neg (by simp), t0 (N + 2) (by omega), Option.bind_some, q0 (N + 2) (by omega), Option.bind_some, if_pos rfl, t1 (N + 2) (by omega), Option.bind_some, q1 (N + 2) (by omega), Option.bind_some, if_pos rfl, m0 (N + 2) (by omega), Option.bind_some, m1 (N + 2) (by omega), Option.bind_some, if_neg (by omega), q2 (N + 2) (by omega), Option.bind_some, if_pos rfl, bne_self_eq_false]
    exact f1
  refine ⟨N + 3, ?_⟩
  unfold laws_FnExactMulPolys.f
  rw [sz_pos l0 _ (by omega) (by omega), Option.bind_some, if_neg (by omega), sz_pos l1 _ (by omega) (by omega), Option.bind_some, if_neg (by omega), t0 (N + 3) (by omega), Option.bind_some, t1 (N + 3) (by omega), Option.bind_some, sp (N + 3) (by omega), Option.bind_some, Option.bind_some, Option.bind_some, im (N + 3) (by omega), Option.bind_some, q2 (N + 3) (by omega), Option.bind_some, if_pos rfl, bne_self_eq_false]
  exact f0
end Go.Proofs.Ytmdicdkceekodaa.TX
