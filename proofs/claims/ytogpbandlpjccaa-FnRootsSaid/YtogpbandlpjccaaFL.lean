/- The law of roots answers yes. -/
import Derived.Test.YtogpbandlpjccaaXF4
import Derived.Test.YtogpbandlpjccaaFE
import Derived.Test.YtogpbandlpjccaaFP
import Derived.Test.YtogpbandlpjccaaFQ
set_option linter.unusedVariables false
set_option linter.unusedSimpArgs false
set_option linter.unusedSectionVars false
namespace Go.Proofs.Ytogpbandlpjccaa.TX
open Go.RowKit Go.Proofs.YtogpbandlpjccaaW.PrintWords Go.Proofs.YtogpbandlpjccaaW.PrintLast Go.Proofs.YtogpbandlpjccaaW.PrintMore Go.G880.Rt Go.RX Go.G880.Nw Go.Newton
def hasB (a b n : Int) : Bool := !okI a b || decide (a ≤ n ∧ n ≤ b)
theorem okI_ok (x : Iv) : okI x.lo x.hi = Go.G880.qaF x := by
 rw [Bool.eq_iff_iff, Go.G880.qcM]
 unfold okI
 exact decide_eq_true_iff
theorem hasI_f (a b n : Int) : qbN.f a b n = some (hasB a b n) := by
 unfold qbN.f Go.G880.qbN Go.G880.qcN hasB
 rw [← okI_ok]
 cases okI a b
 ·rfl
 ·rw [Go.G880.within_not]; rfl
theorem hasB_of {a b n : Int} (h : a ≤ n ∧ n ≤ b) : hasB a b n = true := by unfold hasB; rw [decide_eq_true h, Bool.or_true]
theorem hasB_ok {a b n : Int} (h : okI a b = true) : hasB a b n = decide (a ≤ n ∧ n ≤ b) := by unfold hasB; rw [h]; rfl
theorem rd_toS (O : List Iv) (i : Nat) (h : i < O.length) : qaN (O.map toS) (i : Int) = toS O[i] := by
 rw [rd_at _ _ (by simp; exact h)]
 simp
section
variable {rs : List Int} {O R : List Iv} (hl : rs.length ≤ 4) (hr : ∀ r ∈ rs, -4 ≤ r ∧ r ≤ 4) (hO : O.length ≤ 64) (hR : R.length ≤ 64)
include hl hr hO hR
theorem wrap_root {i : Nat} (hi : i < rs.length) : wrap64 (rd rs (i : Int) * 4294967296) = rs[i] * 4294967296 := by
 have := hr _ (List.getElem_mem hi)
 rw [rd_int rs i hi, qcH (by omega) (by omega)]
theorem l2_ev {L : List S31} {i : Nat} (hi : i < rs.length) (hv : ∃ p0 p1, qaH.f L (rs[i] * 4294967296) (rs[i] * 4294967296) = some (p0, p1) ∧ hasB p0 p1 0 = true)
  (hn : Ev (fun k => qaA.l0 k rs L (O.map toS) (R.map toS) ((i : Int) + 1)) true) : ∀ m j, j + m = R.length → ∀ f : Bool, (f = true ∨ ∃ t, j ≤ t ∧ ∃ h : t < R.length, R[t].lo ≤ rs[i] * 4294967296 ∧ rs[i] * 4294967296 ≤ R[t].hi) →
  Ev (fun k => qaA.l2 k rs L (O.map toS) (R.map toS) (i : Int) f (j : Int)) true := by
 intro m
 induction m with
 | zero =>
  intro j hj f hf
  have f1 : f = true := by
   rcases hf with h | ⟨t, h1, h2, _⟩
   ·exact h
   ·omega
  subst f1
  obtain ⟨p0, p1, e, hp⟩ := hv
  have hb := hr _ (List.getElem_mem hi)
  refine Ev.step (fun k => ?_) hn
  simp only [qaA.l2]
  rw [if_neg (by simp; omega), if_pos trivial, if_pos (by omega), if_pos (by omega), rd_int rs i hi, qhV (by omega), Option.bind_some]
  simp only
  rw [e, Option.bind_some]
  simp only
  rw [hasI_f, hp, Option.bind_some, if_pos rfl, qcH (by omega) (by omega)]
 | succ m ih =>
  intro j hj f hf
  have hj' : j < R.length := by omega
  have ew : wrap64 ((j : Int) + 1) = ((j + 1 : Nat) : Int) := by rw [qcH (by omega) (by omega)]; omega
  cases f with
  | true =>
   refine Ev.step (fun k => ?_) (ih (j + 1) (by omega) true (.inl rfl))
   simp only [qaA.l2]
   rw [if_pos (by simp; omega), if_pos trivial, ew]
  | false =>
   refine Ev.step (fun k => ?_) (ih (j + 1) (by omega) (hasB R[j].lo R[j].hi (rs[i] * 4294967296)) ?_)
   ·simp only [qaA.l2]
    rw [if_pos (by simp; omega), if_neg (by simp), if_pos (by omega), if_pos (by omega), if_pos (by omega), rd_toS R j hj', wrap_root hl hr hO hR hi, hasI_f, Option.bind_some, ew]
    rfl
   ·rcases hf with h | ⟨t, h1, h2, h3⟩
    ·cases h
    ·by_cases e : t = j
     ·subst e; exact .inl (hasB_of h3)
     ·exact .inr ⟨t, by omega, h2, h3⟩
theorem l1_ev {L : List S31} {i : Nat} (hi : i < rs.length) (hv : ∃ p0 p1, qaH.f L (rs[i] * 4294967296) (rs[i] * 4294967296) = some (p0, p1) ∧ hasB p0 p1 0 = true)
  (hn : Ev (fun k => qaA.l0 k rs L (O.map toS) (R.map toS) ((i : Int) + 1)) true) : ∀ m j, j + m = O.length → ∀ f : Bool, (f = true ∨ (∃ t, j ≤ t ∧ ∃ h : t < O.length, O[t].lo ≤ rs[i] * 4294967296 ∧ rs[i] * 4294967296 ≤ O[t].hi) ∨ ∃ t, ∃ h : t < R.length, R[t].lo ≤ rs[i] * 4294967296 ∧ rs[i] * 4294967296 ≤ R[t].hi) →
  Ev (fun k => qaA.l1 k rs L (O.map toS) (R.map toS) (i : Int) f (j : Int)) true := by
 intro m
 induction m with
 | zero =>
  intro j hj f hf
  refine Ev.step (fun k => ?_) (l2_ev hl hr hO hR hi hv hn R.length 0 (Nat.zero_add _) f ?_)
  ·simp only [qaA.l1]
   rw [if_neg (by simp; omega)]
   rfl
  ·rcases hf with h | ⟨t, h1, h2, _⟩ | ⟨t, h1, h2⟩
   ·exact .inl h
   ·omega
   ·exact .inr ⟨t, by omega, h1, h2⟩
 | succ m ih =>
  intro j hj f hf
  have hj' : j < O.length := by omega
  have ew : wrap64 ((j : Int) + 1) = ((j + 1 : Nat) : Int) := by rw [qcH (by omega) (by omega)]; omega
  cases f with
  | true =>
   refine Ev.step (fun k => ?_) (ih (j + 1) (by omega) true (.inl rfl))
   simp only [qaA.l1]
   rw [if_pos (by simp; omega), if_pos trivial, ew]
  | false =>
   refine Ev.step (fun k => ?_) (ih (j + 1) (by omega) (hasB O[j].lo O[j].hi (rs[i] * 4294967296)) ?_)
   ·simp only [qaA.l1]
    rw [if_pos (by simp; omega), if_neg (by simp), if_pos (by omega), if_pos (by omega), if_pos (by omega), rd_toS O j hj', wrap_root hl hr hO hR hi, hasI_f, Option.bind_some, ew]
    rfl
   ·rcases hf with h | ⟨t, h1, h2, h3⟩ | h
    ·cases h
    ·by_cases e : t = j
     ·subst e; exact .inl (hasB_of h3)
     ·exact .inr (.inl ⟨t, by omega, h2, h3⟩)
    ·exact .inr (.inr h)
theorem l0_ev {L : List S31} (hv : ∀ i (hi : i < rs.length), ∃ p0 p1, qaH.f L (rs[i] * 4294967296) (rs[i] * 4294967296) = some (p0, p1) ∧ hasB p0 p1 0 = true)
  (hf : ∀ i (hi : i < rs.length), (∃ t, ∃ h : t < O.length, O[t].lo ≤ rs[i] * 4294967296 ∧ rs[i] * 4294967296 ≤ O[t].hi) ∨ ∃ t, ∃ h : t < R.length, R[t].lo ≤ rs[i] * 4294967296 ∧ rs[i] * 4294967296 ≤ R[t].hi)
  (hn : Ev (fun k => qaA.l3 k rs L (O.map toS) 0) true) : ∀ m i, i + m = rs.length → Ev (fun k => qaA.l0 k rs L (O.map toS) (R.map toS) (i : Int)) true := by
 intro m
 induction m with
 | zero =>
  intro i hi
  refine Ev.step (fun k => ?_) hn
  simp only [qaA.l0]
  rw [if_neg (by omega)]
 | succ m ih =>
  intro i hi
  have hi' : i < rs.length := by omega
  refine Ev.step (fun k => ?_) (l1_ev hl hr hO hR hi' (hv i hi') ?_ O.length 0 (Nat.zero_add _) false ?_)
  ·simp only [qaA.l0]
   rw [if_pos (by omega)]
   rfl
  ·have := ih (i + 1) (by omega)
   simpa only [Int.natCast_add, Int.natCast_one] using this
  ·rcases hf i hi' with ⟨t, h1, h2⟩ | h
   ·exact .inr (.inl ⟨t, by omega, h1, h2⟩)
   ·exact .inr (.inr h)
structure One (rs : List Int) (y b c : Iv) : Prop where
 ok : okI y.lo y.hi = true
 one : ∃ i0, i0 < rs.length ∧ ∀ i (h : i < rs.length), (y.lo ≤ rs[i] * 4294967296 ∧ rs[i] * 4294967296 ≤ y.hi ↔ i = i0) ∧ (i = i0 → hasB b.lo b.hi (rs[i] * 4294967296) = true ∧ hasB c.lo c.hi (rs[i] * 4294967296) = true)
theorem l4_ev {L : List S31} {q : Nat} (hq : q < O.length) {b c : Iv} (h1 : One rs O[q] b c) (hn : Ev (fun k => qaA.l3 k rs L (O.map toS) ((q : Int) + 1)) true) :
  Ev (fun k => qaA.l4 k rs L (O.map toS) (q : Int) 0 0 b.lo b.hi c.lo c.hi) true := by
 obtain ⟨ok, i0, hi0, hone⟩ := h1
 have go : ∀ m i, i + m = rs.length → Ev (fun k => qaA.l4 k rs L (O.map toS) (q : Int) (if i0 < i then 1 else 0) (i : Int) b.lo b.hi c.lo c.hi) true := by
  intro m
  induction m with
  | zero =>
   intro i hi
   refine Ev.step (fun k => ?_) hn
   simp only [qaA.l4]
   rw [if_neg (by omega), if_pos (show i0 < i by omega), if_pos rfl, qcH (by omega) (by omega)]
  | succ m ih =>
   intro i hi
   have hi' : i < rs.length := by omega
   obtain ⟨h1, h2⟩ := hone i hi'
   refine Ev.step (fun k => ?_) (ih (i + 1) (by omega))
   have ew : wrap64 ((i : Int) + 1) = ((i + 1 : Nat) : Int) := by rw [qcH (by omega) (by omega)]; omega
   simp only [qaA.l4]
   rw [if_pos (by omega), if_pos (by omega), if_pos (by simp; omega), if_pos (by omega), rd_toS O q hq, wrap_root hl hr hO hR hi', hasI_f, Option.bind_some]
   have hb : hasB (toS O[q]).f0 (toS O[q]).f1 (rs[i] * 4294967296) = decide (i = i0) := by
    show hasB O[q].lo O[q].hi _ = _
    rw [hasB_ok ok]
    exact decide_eq_decide.2 h1
   rw [hb]
   by_cases e : i = i0
   ·obtain ⟨g1, g2⟩ := h2 e
    rw [decide_eq_true e, if_pos rfl, hasI_f, g1, Option.bind_some, if_pos rfl, hasI_f, g2, Option.bind_some, if_pos rfl, ew, if_neg (show ¬ i0 < i by omega), if_pos (show i0 < i + 1 by omega), qcH (x := 0 + 1) (by omega) (by omega)]
    rfl
   ·rw [decide_eq_false e, if_neg (by simp), ew]
    by_cases e2 : i0 < i
    ·rw [if_pos e2, if_pos (show i0 < i + 1 by omega)]
    ·rw [if_neg e2, if_neg (show ¬ i0 < i + 1 by omega)]
 have := go rs.length 0 (Nat.zero_add _)
 rwa [if_neg (by omega)] at this
theorem inside_f {a b : Iv} (ha : okI a.lo a.hi = true) (h : b.lo ≤ a.lo ∧ a.hi ≤ b.hi) : qbM.f a.lo a.hi b.lo b.hi = some true := by
 unfold qbM.f Go.G880.qbM
 rw [← okI_ok, ← okI_ok, ha, decide_eq_true h.1, decide_eq_true h.2]
 cases okI b.lo b.hi <;> rfl
theorem l3_ev {L : List S31} (h : ∀ q (hq : q < O.length), ∃ b c : Iv, qaJ.f L O[q].lo O[q].hi 20 = some (b.lo, b.hi, 0) ∧ qaG.f L O[q].lo O[q].hi 6 = some (c.lo, c.hi, 0) ∧
  qaT.f L O[q].lo O[q].hi = some true ∧ okI b.lo b.hi = true ∧ okI c.lo c.hi = true ∧ (O[q].lo ≤ b.lo ∧ b.hi ≤ O[q].hi) ∧ (O[q].lo ≤ c.lo ∧ c.hi ≤ O[q].hi) ∧ One rs O[q] b c) :
  ∀ m q, q + m = O.length → Ev (fun k => qaA.l3 k rs L (O.map toS) (q : Int)) true := by
 intro m
 induction m with
 | zero =>
  intro q hq
  refine qhN fun k => ?_
  simp only [qaA.l3]
  rw [if_neg (by simp; omega)]
 | succ m ih =>
  intro q hq
  have hq' : q < O.length := by omega
  obtain ⟨b, c, e1, e2, e3, ob, oc, ib, ic, one⟩ := h q hq'
  have n4 := l4_ev hl hr hO hR hq' one (L := L) (by simpa only [Int.natCast_add, Int.natCast_one] using ih (q + 1) (by omega))
  have n5 : Ev (fun k => qaA.j5 k rs L (O.map toS) (q : Int) false b.lo b.hi c.lo c.hi) true := by
   refine Ev.step (fun k => ?_) n4
   simp only [qaA.j5]
   rw [if_neg (by simp)]
  refine Ev.step (fun k => ?_) n5
  simp only [qaA.l3]
  rw [if_pos (by simp; omega), if_pos (by omega), rd_toS O q hq']
  simp only [toS]
  rw [e1, Option.bind_some, e2, Option.bind_some]
  simp only
  rw [if_pos trivial, if_pos trivial]
  have hv : qbG.f O[q].lo O[q].hi = some true := by
   unfold qbG.f Go.G880.qbG
   rw [← okI_ok, one.ok]
  rw [hv]
  simp only [Option.bind_some, if_true]
  rw [inside_f hl hr hO hR ob ib, Option.bind_some, if_pos rfl, inside_f hl hr hO hR oc ic, Option.bind_some, if_pos rfl, e3, Option.bind_some]
  rfl
end
end Go.Proofs.Ytogpbandlpjccaa.TX
