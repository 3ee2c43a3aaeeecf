/- Reading a point: both ways agree. -/
import Derived.Test.YtoncbpohjdackaaDoorQ4
import Derived.Test.YtoncbpohjdackaaDoorN3
import Derived.Test.YtoncbpohjdackaaDoorX5
set_option linter.unusedVariables false
set_option linter.unusedSimpArgs false
namespace Go.Proofs.YtoncbpohjdackaaDoor.TX
open Go.RowKit Go.Proofs.YtoncbpohjdackaaDoorW.PrintWords Go.Proofs.YtoncbpohjdackaaDoorW.PrintLast Go.Proofs.YtoncbpohjdackaaDoorW.PrintMore
open Go.TX Go.Lib

/-! ### An angle's text, read -/
theorem unm_dec (m : Int) (q : Nat) : unm (sgn m ++ decDigits q) = decDigits q := by
  unfold sgn
  by_cases h : m < 0
  · rw [if_pos h]; simp [unm]
  · rw [if_neg h, List.nil_append]
    obtain ⟨b, r, e, hb⟩ := dec_cons q
    rw [e]
    have : b ≠ 45 := by intro h; subst h; simp [isD] at hb
    simp [unm, this]
theorem sgn_not (m : Int) {b : UInt8} (h : b ≠ 45) : b ∉ sgn m := by
  unfold sgn; split <;> simp [h]
theorem dt7 (m : Int) : dt 7 m = (sgn m ++ decDigits (m.natAbs / 10000000)) ++ 46 :: digs 7 (m.natAbs % 10000000) := by
  show sgn m ++ (decDigits (m.natAbs / 10000000) ++ (46 :: digs 7 (m.natAbs % 10000000))) = _
  simp
theorem isD32' : isD 32 = false := by decide
theorem isD46 : isD 46 = false := by decide
theorem isD45 : isD 45 = false := by decide
theorem sgn_len (m : Int) : (sgn m).length ≤ 1 := by unfold sgn; split <;> simp
theorem readDig_dt (m : Int) (h : m.natAbs ≤ 1800000000) : readDig (dt 7 m) = (m, 7, true) := by
  have hq : m.natAbs / 10000000 < 10 ^ 3 := by show _ < 1000; omega
  have hr : m.natAbs % 10000000 < 10 ^ 7 := by show _ < 10000000; omega
  have hl1 := dec_length_le _ 3 (by omega) hq
  have hl0 := dec_length_pos (m.natAbs / 10000000)
  have hl2 := digs_length 7 (m.natAbs % 10000000)
  have hn46 : (46 : UInt8) ∉ sgn m ++ decDigits (m.natAbs / 10000000) := by
    intro hm
    rcases List.mem_append.1 hm with h1 | h1
    · exact sgn_not m (by decide) h1
    · exact not_mem_of_all (dec_isD _) isD46 h1
  have hc : cut1 46 (dt 7 m) = (sgn m ++ decDigits (m.natAbs / 10000000), digs 7 (m.natAbs % 10000000)) := by rw [dt7]; exact cut1_append _ hn46
  have hm46 : (46 : UInt8) ∈ dt 7 m := by rw [dt7]; simp
  have hval : val 0 (decDigits (m.natAbs / 10000000) ++ digs 7 (m.natAbs % 10000000)) = m.natAbs := by
    rw [val_append, val_dec, val_digs 7 _ _ hr]
    show m.natAbs / 10000000 * 10000000 + m.natAbs % 10000000 = m.natAbs
    omega
  unfold readDig
  simp only [hc, unm_dec]
  rw [if_neg (by rw [decide_eq_true hm46, decide_eq_true (by omega)]; simp), if_neg (by omega), if_neg (by omega), if_neg (by rw [List.all_append, dec_isD, digs_isD]; simp), hval]
  have e : (if decDigits (m.natAbs / 10000000) = sgn m ++ decDigits (m.natAbs / 10000000) then (m.natAbs : Int) else -(m.natAbs : Int)) = m := by
    by_cases hn : m < 0
    · rw [if_neg]
      · omega
      · intro he
        have := congrArg List.length he
        unfold sgn at this
        rw [if_pos hn] at this
        simp at this
    · rw [if_pos]
      · omega
      · unfold sgn; rw [if_neg hn]; simp
  rw [e, hl2]
  simp
def implDeg (l : List UInt8) : Int × Bool := if (readDig l).2.2 = true then (if (readDig l).2.1 = 7 then ((readDig l).1, true) else (0, false)) else (0, false)
theorem implDeg_dt (m : Int) (h : m.natAbs ≤ 1800000000) : implDeg (dt 7 m) = (m, true) := by
  unfold implDeg
  rw [readDig_dt m h]; rfl
theorem implDeg_text {l : List UInt8} {m : Int} (h : implDeg l = (m, true)) : l = dt 7 m := by
  unfold implDeg at h
  by_cases h1 : (readDig l).2.2 = true
  · rw [if_pos h1] at h
    by_cases h2 : (readDig l).2.1 = 7
    · rw [if_pos h2] at h
      have hm : (readDig l).1 = m := congrArg Prod.fst h
      rw [← hm]
      revert h1 h2
      unfold readDig
      simp only
      split
      · intro h1; cases h1
      · split
        · intro h1; cases h1
        · split
          · intro h1; cases h1
          · split
            · intro h1; cases h1
            · simp only
              intro h1 h2
              have h3 : (cut1 46 l).2.length = 7 := by omega
              rw [h3] at h1
              exact (of_decide_eq_true h1).symm
    · rw [if_neg h2] at h; cases h
  · rw [if_neg h1] at h; cases h
/-- What the reference reads. -/
def specDeg (l : List UInt8) : Int × Bool :=
  if ((l.take 14).filter isD).length = 0 then (0, false)
  else if l.head? = some 45 then (-(val 0 ((l.take 14).filter isD) : Int), decide (dt 7 (-(val 0 ((l.take 14).filter isD) : Int)) = l))
  else ((val 0 ((l.take 14).filter isD) : Int), decide (dt 7 (val 0 ((l.take 14).filter isD) : Int) = l))
theorem specDeg_text {l : List UInt8} {m : Int} (h : specDeg l = (m, true)) : l = dt 7 m := by
  unfold specDeg at h
  split at h
  · cases h
  · split at h
    · simp only [Prod.mk.injEq, decide_eq_true_eq] at h; rw [← h.1]; exact h.2.symm
    · simp only [Prod.mk.injEq, decide_eq_true_eq] at h; rw [← h.1]; exact h.2.symm
theorem filter_all {l : List UInt8} (h : l.all isD = true) : l.filter isD = l := List.filter_eq_self.2 (by rwa [List.all_eq_true] at h)
theorem filter_sgn (m : Int) : (sgn m).filter isD = [] := by unfold sgn; split <;> simp [isD45]
theorem specDeg_dt (m : Int) (h : m.natAbs ≤ 1800000000) : specDeg (dt 7 m) = (m, true) := by
  have hq : m.natAbs / 10000000 < 10 ^ 3 := by show _ < 1000; omega
  have hr : m.natAbs % 10000000 < 10 ^ 7 := by show _ < 10000000; omega
  have hl1 := dec_length_le _ 3 (by omega) hq
  have hl0 := dec_length_pos (m.natAbs / 10000000)
  have hl2 := digs_length 7 (m.natAbs % 10000000)
  have hs := sgn_len m
  have hlen : (dt 7 m).length ≤ 14 := by rw [dt7]; simp; omega
  have hf : ((dt 7 m).take 14).filter isD = decDigits (m.natAbs / 10000000) ++ digs 7 (m.natAbs % 10000000) := by
    rw [List.take_of_length_le hlen, dt7, List.filter_append, List.filter_append, filter_sgn, filter_all (dec_isD _), List.filter_cons_of_neg (by rw [isD46]; simp), filter_all (digs_isD _ _)]
    simp
  have hval : val 0 (decDigits (m.natAbs / 10000000) ++ digs 7 (m.natAbs % 10000000)) = m.natAbs := by
    rw [val_append, val_dec, val_digs 7 _ _ hr]
    show m.natAbs / 10000000 * 10000000 + m.natAbs % 10000000 = m.natAbs
    omega
  unfold specDeg
  rw [hf, hval, if_neg (by rw [List.length_append]; omega)]
  by_cases hn : m < 0
  · have hh : (dt 7 m).head? = some 45 := by rw [dt7]; unfold sgn; rw [if_pos hn]; rfl
    rw [if_pos hh, show (-(m.natAbs : Int)) = m by omega]
    simp
  · have hh : ¬ (dt 7 m).head? = some 45 := by
      rw [dt7]
      unfold sgn
      rw [if_neg hn, List.nil_append]
      obtain ⟨b, r, e, hb⟩ := dec_cons (m.natAbs / 10000000)
      rw [e]
      simp only [List.cons_append, List.head?_cons, Option.some.injEq]
      intro h; subst h; rw [isD45] at hb; cases hb
    rw [if_neg hh, show ((m.natAbs : Int)) = m by omega]
    simp
theorem dt_bytes (m : Int) : (32 : UInt8) ∉ dt 7 m := by
  rw [dt7]
  intro hm
  rcases List.mem_append.1 hm with h1 | h1
  · rcases List.mem_append.1 h1 with h1 | h1
    · exact sgn_not m (by decide) h1
    · exact not_mem_of_all (dec_isD _) isD32' h1
  · rcases List.mem_cons.1 h1 with h1 | h1
    · exact absurd h1 (by decide)
    · exact not_mem_of_all (digs_isD _ _) isD32' h1
theorem dt_ne (m : Int) : dt 7 m ≠ [] := by rw [dt7]; simp

/-! ### The point -/
def combP (p q : Int × Bool) : Int × Int × Bool := if p.2 = true then (if q.2 = true then (if okP p.1 q.1 = true then (p.1, q.1, true) else (0, 0, false)) else (0, 0, false)) else (0, 0, false)
theorem combP_true {p q : Int × Bool} {a b : Int} (h : combP p q = (a, b, true)) : p = (a, true) ∧ q = (b, true) ∧ okP a b = true := by
  unfold combP at h
  obtain ⟨p1, p2⟩ := p
  obtain ⟨q1, q2⟩ := q
  simp only at h
  split at h
  · split at h
    · split at h
      · simp only [Prod.mk.injEq] at h
        obtain ⟨rfl, rfl, _⟩ := h
        rename_i h1 h2 h3 _
        exact ⟨by rw [h1], by rw [h2], h3⟩
      · cases h
    · cases h
  · cases h
theorem combP_false (p q : Int × Bool) : combP p q = (0, 0, false) ∨ ∃ a b, combP p q = (a, b, true) := by
  unfold combP
  split
  · split
    · split
      · exact .inr ⟨_, _, rfl⟩
      · exact .inl rfl
    · exact .inl rfl
  · exact .inl rfl
theorem okP_deg {a b : Int} (h : okP a b = true) : a.natAbs ≤ 1800000000 ∧ b.natAbs ≤ 1800000000 := by
  simp only [okP, decide_eq_true_eq] at h; omega
def implRP (l : List UInt8) : Int × Int × Bool := combP (implDeg (cut1 32 l).1) (implDeg (cut1 32 l).2)
def specRP (l : List UInt8) : Int × Int × Bool := if 32 ∈ l ∧ 32 ∉ (cut1 32 l).2 then combP (specDeg (cut1 32 l).1) (specDeg (cut1 32 l).2) else (0, 0, false)
theorem RP_eq (l : List UInt8) : specRP l = implRP l := by
  rcases combP_false (implDeg (cut1 32 l).1) (implDeg (cut1 32 l).2) with h0 | ⟨a, b, h⟩
  · unfold implRP
    rw [h0]
    unfold specRP
    by_cases hc : 32 ∈ l ∧ 32 ∉ (cut1 32 l).2
    · rw [if_pos hc]
      rcases combP_false (specDeg (cut1 32 l).1) (specDeg (cut1 32 l).2) with h1 | ⟨a, b, h1⟩
      · exact h1
      · obtain ⟨e1, e2, e3⟩ := combP_true h1
        obtain ⟨d1, d2⟩ := okP_deg e3
        rw [specDeg_text e1, specDeg_text e2, implDeg_dt a d1, implDeg_dt b d2] at h0
        unfold combP at h0
        simp [e3] at h0
    · rw [if_neg hc]
  · obtain ⟨e1, e2, e3⟩ := combP_true h
    obtain ⟨d1, d2⟩ := okP_deg e3
    have t1 := implDeg_text e1
    have t2 := implDeg_text e2
    have hc : 32 ∈ l ∧ 32 ∉ (cut1 32 l).2 := by
      refine ⟨Classical.byContradiction fun hn => ?_, ?_⟩
      · rw [cut1_none hn] at t2
        exact dt_ne b t2.symm
      · rw [t2]; exact dt_bytes b
    unfold specRP implRP
    rw [if_pos hc, h, t1, t2, specDeg_dt a d1, specDeg_dt b d2]
    unfold combP
    simp [e3]

/-! ### What the functions come to -/
theorem readDegrees_f (l : List UInt8) (h : l.length < 4294967281) : impl_readDegrees.f (bs l) = some (implDeg l) := by
  unfold impl_readDegrees.f impl_readDigits.f implDeg
  rw [if_pos (by rw [bs_size]; exact h), Option.bind_some]
  simp only [show (bs l).data.toList = l from rfl]
  by_cases h1 : (readDig l).2.2 = true
  · rw [if_pos h1, if_pos h1]
    by_cases h2 : (readDig l).2.1 = 7
    · rw [if_pos h2, if_pos h2]
    · rw [if_neg h2, if_neg h2]
  · rw [if_neg h1, if_neg h1]
theorem implRP_f (l : List UInt8) (h : l.length < 4294967281) : impl_ReadPoint.f (bs l) = some (implRP l) := by
  have h1 := cut1_len' 32 l
  have e1 : strings_Cut.f (bs l) (bs [32]) = some (bs (cut1 32 l).1, bs (cut1 32 l).2, decide (32 ∈ l)) := by
    unfold strings_Cut.f
    rw [if_pos (by rw [bs_size]; exact h)]
    have := cut_eq 32 l
    simp only [this]
  unfold impl_ReadPoint.f
  rw [show (⟨#[32]⟩ : ByteArray) = bs [32] from rfl, e1, Option.bind_some]
  simp only
  rw [readDegrees_f _ (by omega), Option.bind_some, readDegrees_f _ (by omega), Option.bind_some]
  unfold implRP combP
  simp only [validP_f, Option.bind_some]
  split <;> first | rfl | (split <;> first | rfl | (split <;> rfl))
theorem nd_lt (l : List UInt8) : val 0 ((l.take 14).filter isD) < 100000000000000 := by
  have h1 : ((l.take 14).filter isD).all isD = true := by rw [List.all_eq_true]; exact fun x hx => (List.mem_filter.1 hx).2
  have h2 := val_lt _ 0 h1
  have h3 : ((l.take 14).filter isD).length ≤ 14 := Nat.le_trans (List.length_filter_le _ _) (by rw [List.length_take]; omega)
  have h4 : 10 ^ ((l.take 14).filter isD).length ≤ 10 ^ 14 := Nat.pow_le_pow_right (by omega) h3
  have h5 : (10 : Nat) ^ 14 = 100000000000000 := rfl
  omega
theorem l11Read_end (l : List UInt8) (hl : l.length ≤ 2000000) (i : Int) : Ev (fun k => spec_l11Read.j1 k (bs l) (val 0 ((l.take 14).filter isD) : Nat) ((l.take 14).filter isD).length i false) (specDeg l) := by
  have hv := nd_lt l
  unfold specDeg
  by_cases h0 : ((l.take 14).filter isD).length = 0
  · rw [if_pos h0]
    refine ev_of_all fun k => ?_
    simp only [spec_l11Read.j1]
    rw [if_neg (by simp), if_pos (by omega)]
  · rw [if_neg h0]
    generalize val 0 ((l.take 14).filter isD) = n at hv
    cases l with
    | nil => simp at h0
    | cons b r =>
      have hb : bt (bs (b :: r)) 0 = (b.toNat : Int) := bt_bs (b :: r) 0 (by simp)
      simp only [List.head?_cons, Option.some.injEq]
      by_cases h45 : b = 45
      · rw [if_pos h45]
        obtain ⟨K, hK⟩ := l11Text_ev (-(n : Int)) (by show _ < 1000000000000000000; omega)
        refine ev_succ K fun k hk => ?_
        have e := hK k hk
        simp only at e
        simp only [spec_l11Read.j1]
        rw [if_neg (by simp), if_neg (by omega), if_pos (by rw [bs_size]; simp), hb, if_pos (by subst h45; rfl), wrap_small (by omega) (by omega), e, Option.bind_some, ba_eq]
      · rw [if_neg h45]
        obtain ⟨K, hK⟩ := l11Text_ev (n : Int) (by show _ < 1000000000000000000; omega)
        refine ev_succ K fun k hk => ?_
        have e := hK k hk
        simp only at e
        simp only [spec_l11Read.j1]
        rw [if_neg (by simp), if_neg (by omega), if_pos (by rw [bs_size]; simp), hb, if_neg (by intro h; exact h45 (UInt8.toNat_inj.1 (by show b.toNat = 45; omega))), e, Option.bind_some, ba_eq]
theorem l11Read_loop (l : List UInt8) (hl : l.length ≤ 2000000) : ∀ (rest pre : List UInt8), l.take 14 = pre ++ rest → Ev (fun k => spec_l11Read.l0 k (bs l) (val 0 (pre.filter isD) : Nat) (pre.filter isD).length (pre.length : Nat)) (specDeg l) := by
  intro rest
  induction rest with
  | nil =>
    intro pre hp
    rw [List.append_nil] at hp
    have hlen : pre.length = min 14 l.length := by rw [← hp, List.length_take]
    have he := l11Read_end l hl (pre.length : Nat)
    rw [hp] at he
    refine Ev.step (f := fun k => spec_l11Read.j1 k (bs l) (val 0 (pre.filter isD) : Nat) (pre.filter isD).length (pre.length : Nat) false) (fun k => ?_) he
    simp only [spec_l11Read.l0]
    by_cases h : (pre.length : Int) < ((bs l).size : Int)
    · rw [if_pos h, decide_eq_false]
      rw [bs_size] at h; omega
    · rw [if_neg h]
  | cons b rest ih =>
    intro pre hp
    have hplen : pre.length < 14 := by
      have := congrArg List.length hp
      simp at this
      omega
    have hi : pre.length < l.length := by
      have := congrArg List.length hp
      simp at this
      omega
    have hb : bt (bs l) (pre.length : Int) = (b.toNat : Int) := by
      rw [bt_bs l _ hi]
      have h1 : (l.take 14)[pre.length]? = some b := by rw [hp]; simp
      rw [List.getElem?_take_of_lt hplen] at h1
      rw [List.getElem?_eq_getElem hi] at h1
      rw [Option.some.inj h1]
    have hsub : ((pre.filter isD).length) ≤ 14 := Nat.le_trans (List.length_filter_le _ _) (by omega)
    refine Ev.step (f := fun k => spec_l11Read.j1 k (bs l) (val 0 (pre.filter isD) : Nat) (pre.filter isD).length (pre.length : Nat) true) (fun k => ?_) ?_
    · simp only [spec_l11Read.l0]
      rw [if_pos (by rw [bs_size]; omega), decide_eq_true (by omega)]
    · have ih' := ih (pre ++ [b]) (by rw [hp]; simp)
      refine Ev.step (f := fun k => spec_l11Read.l0 k (bs l) (val 0 ((pre ++ [b]).filter isD) : Nat) ((pre ++ [b]).filter isD).length ((pre ++ [b]).length : Nat)) (fun k => ?_) ih'
      have hw : wrap64 ((pre.length : Int) + 1) = (((pre ++ [b]).length : Nat) : Int) := by rw [wrap_small (by omega) (by omega)]; simp
      simp only [spec_l11Read.j1, if_true]
      rw [if_pos (by omega), if_pos (by rw [bs_size]; omega), hb, hw]
      by_cases hd : isD b = true
      · have h48 := (isD_iff b).1 hd
        have hv1 : val 0 ((pre ++ [b]).filter isD) = 10 * val 0 (pre.filter isD) + dv b := by
          rw [List.filter_append, List.filter_cons_of_pos hd, List.filter_nil, val_append, val_one]
        have hl1 : ((pre ++ [b]).filter isD).length = (pre.filter isD).length + 1 := by
          rw [List.filter_append, List.filter_cons_of_pos hd, List.filter_nil]; simp
        have hb1 : val 0 ((pre ++ [b]).filter isD) < 1000000000000000000 := val_lt18 _ (by rw [List.all_eq_true]; exact fun x hx => (List.mem_filter.1 hx).2) (by omega)
        rw [if_pos (by omega), if_pos (by omega), sub48 b hd, wrap_small (x := 10 * (val 0 (pre.filter isD) : Int)) (by omega) (by omega), wrap_small (by omega) (by omega), wrap_small (by omega) (by omega), hv1, hl1]
        rfl
      · have hf : (pre ++ [b]).filter isD = pre.filter isD := by
          rw [List.filter_append, List.filter_cons_of_neg (by simpa using hd), List.filter_nil, List.append_nil]
        rw [hf]
        by_cases h1 : (b.toNat : Int) ≥ 48
        · rw [if_pos h1]
          have h2 : ¬ (b.toNat : Int) ≤ 57 := by
            intro h2
            exact hd ((isD_iff b).2 ⟨by omega, by omega⟩)
          rw [if_neg h2]
        · rw [if_neg h1]
theorem l11Read_ev (l : List UInt8) (hl : l.length ≤ 2000000) : Ev (fun k => spec_l11Read.f k (bs l)) (specDeg l) :=
  l11Read_loop l hl (l.take 14) [] rfl
theorem specRP_ev (l : List UInt8) (h : l.length ≤ 1048576) : Ev (fun k => spec_ReadPoint.f k (bs l)) (specRP l) := by
  have h1 := cut1_len' 32 l
  obtain ⟨K1, hK1⟩ := l01Split_ev 32 l (by omega)
  obtain ⟨K3, hK3⟩ := l11Read_ev (cut1 32 l).1 (by omega)
  obtain ⟨K4, hK4⟩ := l11Read_ev (cut1 32 l).2 (by omega)
  refine ⟨max K1 (max K3 K4), fun k hk => ?_⟩
  have e1 : spec_l01Split.f k (bs l) 32 = _ := hK1 k (by omega)
  have e3 := hK3 k (by omega)
  have e4 := hK4 k (by omega)
  simp only at e3 e4
  simp only [spec_ReadPoint.f]
  rw [e1, Option.bind_some]
  unfold specRP
  by_cases c1 : 32 ∈ l ∧ 32 ∉ (cut1 32 l).2
  · rw [if_pos c1, split_two_of c1.1 c1.2]
    simp only [List.map_cons, List.map_nil]
    rw [if_pos (by rfl), if_pos (by show (0 : Int) < 2; omega)]
    rw [show rdOf ByteArray.empty [bs (cut1 32 l).1, bs (cut1 32 l).2] 0 = bs (cut1 32 l).1 from rfl, e3, Option.bind_some, if_pos (by show (1 : Int) < 2; omega)]
    rw [show rdOf ByteArray.empty [bs (cut1 32 l).1, bs (cut1 32 l).2] 1 = bs (cut1 32 l).2 from rfl, e4, Option.bind_some]
    unfold combP
    simp only [l11Ok_f, Option.bind_some]
    split <;> first | rfl | (split <;> first | rfl | (split <;> rfl))
  · rw [if_neg c1, if_neg]
    have := split_other c1
    rw [List.length_map]
    omega
theorem lawReadPoint (s : ByteArray) : ∃ k, laws_FnExactReadPoint.f k s = some true := by
  rw [← bs_toList s]
  generalize s.data.toList = l
  by_cases h : l.length ≤ 1048576
  · obtain ⟨K, hK⟩ := specRP_ev l h
    refine ⟨K, ?_⟩
    have e := hK K (Nat.le_refl _)
    simp only at e
    rw [RP_eq] at e
    unfold laws_FnExactReadPoint.f
    rw [if_neg (by rw [bs_size]; omega), e, Option.bind_some, implRP_f l (by omega), Option.bind_some]
    simp [laws_eqPoint.f]
  · refine ⟨0, ?_⟩
    unfold laws_FnExactReadPoint.f
    rw [if_pos (by rw [bs_size]; omega)]
end Go.Proofs.YtoncbpohjdackaaDoor.TX
