/- The law of roots answers yes, for all bytes. -/
import Derived.Test.YtogpbandlpjccaaFL
set_option linter.unusedVariables false
set_option linter.unusedSimpArgs false
set_option linter.unusedSectionVars false
namespace Go.Proofs.Ytogpbandlpjccaa.TX
open Go.RowKit Go.Proofs.YtogpbandlpjccaaW.PrintWords Go.Proofs.YtogpbandlpjccaaW.PrintLast Go.Proofs.YtogpbandlpjccaaW.PrintMore Go.G880.Rt Go.RX Go.G880.Nw Go.Newton
theorem at_ex {l1 : List Int} (hb : Bytes l1) : ∃ d, qeN.f l1 0 100 = some d ∧ 0 ≤ d ∧ d < 100 := by
 unfold qeN.f
 by_cases c : (0 : Int) ≥ (l1.length : Int)
 ·rw [if_pos c]; exact ⟨0, rfl, by omega, by omega⟩
 ·have hr := rd_byte hb 0
  have t := tmod_rng (x := rd l1 0) (n := 100) hr.1 (by omega)
  rw [if_neg c, if_neg (by omega), if_pos (by omega), if_pos (by omega), if_neg (by omega), qcH (by omega) (by omega)]
  exact ⟨_, rfl, t.1, t.2⟩
section
variable {rs : List Int} (hsub : rs.Sublist all9) (hl : 1 ≤ rs.length ∧ rs.length ≤ 4)
include hsub hl
theorem facts_of : good rs = true ∧ preOk rs = true ∧ Pol (rw' (qeC rs)) ∧ ∀ r ∈ rs, -4 ≤ r ∧ r ≤ 4 := by
 have h := all_facts hsub hl
 simp only [facts, Bool.and_eq_true] at h
 obtain ⟨⟨⟨⟨⟨h1, h2⟩, h3⟩, h4⟩, h5⟩, h6⟩ := h
 refine ⟨h1, h2, pol_rw _ (by rw [qgG]; omega) h3 h4, fun r hr => ?_⟩
 have := List.all_eq_true.1 h6 r hr
 simp only [Bool.and_eq_true, qg8] at this
 exact this
theorem roots_inj {i j : Nat} (hi : i < rs.length) (hj : j < rs.length) (h : rs[i] = rs[j]) : i = j := by
 have hn : rs.Nodup := hsub.nodup (by decide)
 have hp := List.pairwise_iff_getElem.1 hn
 rcases Nat.lt_trichotomy i j with q | q | q
 ·exact absurd h (hp i j hi hj q)
 ·exact q
 ·exact absurd h.symm (hp j i hj hi q)
theorem val_zero (i : Nat) (hi : i < rs.length) : ∃ p0 p1, qaH.f (S (qeC rs)) (rs[i] * 4294967296) (rs[i] * 4294967296) = some (p0, p1) ∧ hasB p0 p1 0 = true := by
 obtain ⟨_, _, hP, hr⟩ := facts_of hsub hl
 have hb := hr _ (List.getElem_mem hi)
 have hx : Go.G880.qaF ⟨rs[i] * 4294967296, rs[i] * 4294967296⟩ = true := (Go.G880.qcM _).2 (by simp only; omega)
 refine ⟨(Go.G880.qaH (qfF (S (qeC rs))) ⟨rs[i] * 4294967296, rs[i] * 4294967296⟩).lo, (Go.G880.qaH (qfF (S (qeC rs))) ⟨rs[i] * 4294967296, rs[i] * 4294967296⟩).hi, ?_, ?_⟩
 ·unfold qaH.f
  rw [if_pos (by rw [lenS_, qgG]; omega)]
 ·rw [rows_S, Go.G880.qf4 (qg5 hP) hP.ok hx]
  generalize hp : Go.G880.qaP (rw' (qeC rs)) ⟨rs[i] * 4294967296, rs[i] * 4294967296⟩ = p
  cases k : okI p.lo p.hi
  ·unfold hasB; rw [k]; rfl
  ·refine hasB_of ?_
   rw [okI_ok] at k
   have hw := atW (rw' (qeC rs)) (coef _) ⟨rs[i] * 4294967296, rs[i] * 4294967296⟩ (fx (rs[i] * 4294967296)) (fun _ => has_pt) ⟨hP.len.1, by have := hP.len.2; omega⟩ (coefW _)
   rw [hp] at hw
   have hz := qiO (hw k)
   have hz0 := qfZ (List.getElem_mem hi)
   simp only [pp] at hz0
   rw [hz0] at hz
   exact ⟨qh2 (by rw [fx0]; exact hz.1), qh2 (by rw [fx0]; exact hz.2)⟩
theorem one_of {X y : Iv} (h : Sure (rw' (qeC rs)) X y) : ∃ b c : Iv, qaJ.f (S (qeC rs)) y.lo y.hi 20 = some (b.lo, b.hi, 0) ∧ qaG.f (S (qeC rs)) y.lo y.hi 6 = some (c.lo, c.hi, 0) ∧
  qaT.f (S (qeC rs)) y.lo y.hi = some true ∧ okI b.lo b.hi = true ∧ okI c.lo c.hi = true ∧ (y.lo ≤ b.lo ∧ b.hi ≤ y.hi) ∧ (y.lo ≤ c.lo ∧ c.hi ≤ y.hi) ∧ One rs y b c := by
 obtain ⟨_, _, hP, hr⟩ := facts_of hsub hl
 obtain ⟨hx, _, _, hu⟩ := h
 obtain ⟨e1, b1, b2, b3, b4⟩ := bisect_part hP (n := 20) hx (by omega) hu
 obtain ⟨e2, c1, c2, c3, c4⟩ := newton_part hP (n := 6) hx (by omega) hu
 have ho := (Go.G880.qcM _).1 hx
 have hob := (Go.G880.qcM _).1 b1
 have hoc := (Go.G880.qcM _).1 c1
 have hlen : (S (qeC rs)).length ≤ 1048576 := by rw [lenS_, qgG]; omega
 refine ⟨(Go.G880.qaJ (rw' (qeC rs)) y 20).1, (Go.G880.qaG (rw' (qeC rs)) y 6).1, ?_, ?_, ?_, by rw [okI_ok]; exact b1, by rw [okI_ok]; exact c1, ⟨b2, b3⟩, ⟨c2, c3⟩, by rw [okI_ok]; exact hx, ?_⟩
 ·unfold qaJ.f
  rw [if_pos hlen, rows_S, show (⟨y.lo, y.hi⟩ : Iv) = y from rfl, e1]
 ·unfold qaG.f
  rw [if_pos hlen, rows_S, show (⟨y.lo, y.hi⟩ : Iv) = y from rfl, e2]
 ·unfold qaT.f
  rw [if_pos hlen, rows_S, show (⟨y.lo, y.hi⟩ : Iv) = y from rfl, Go.G880.qiX _ (qg5 hP), hu]
 ·obtain ⟨r, hrm, r1, r2⟩ := chg_root ho.2.1 (uniq_chg hP hx hu)
  obtain ⟨rb, hbm, d1, d2⟩ := chg_root hob.2.1 b4
  obtain ⟨rc, hcm, g1, g2⟩ := chg_root hoc.2.1 c4
  obtain ⟨i0, hi0, rfl⟩ := List.getElem_of_mem hrm
  have eb := uniq_one hP hx hu (m := rb * 4294967296) (n := rs[i0] * 4294967296) ⟨by omega, by omega⟩ ⟨r1, r2⟩ (qfZ hbm) (qfZ hrm)
  have ec := uniq_one hP hx hu (m := rc * 4294967296) (n := rs[i0] * 4294967296) ⟨by omega, by omega⟩ ⟨r1, r2⟩ (qfZ hcm) (qfZ hrm)
  refine ⟨i0, hi0, fun i hi => ⟨⟨fun q => ?_, fun q => ?_⟩, fun q => ?_⟩⟩
  ·have e := uniq_one hP hx hu (m := rs[i] * 4294967296) (n := rs[i0] * 4294967296) q ⟨r1, r2⟩ (qfZ (List.getElem_mem hi)) (qfZ hrm)
   exact roots_inj hsub hl hi hi0 (by omega)
  ·subst q; exact ⟨r1, r2⟩
  ·subst q
   exact ⟨hasB_of ⟨by omega, by omega⟩, hasB_of ⟨by omega, by omega⟩⟩
theorem search_ex (d : Int) (hd : 0 ≤ d ∧ d < 100) : ∃ O R : List Iv, qg4 (rw' (qeC rs)) ⟨-23622320128, 21474836480 + d⟩ 8 = (O, R, 0) ∧ O.length + R.length ≤ 64 ∧ (∀ y ∈ O, Sure (rw' (qeC rs)) ⟨-23622320128, 21474836480 + d⟩ y) ∧
  ∀ i (hi : i < rs.length), (∃ t, ∃ h : t < O.length, O[t].lo ≤ rs[i] * 4294967296 ∧ rs[i] * 4294967296 ≤ O[t].hi) ∨ ∃ t, ∃ h : t < R.length, R[t].lo ≤ rs[i] * 4294967296 ∧ rs[i] * 4294967296 ≤ R[t].hi := by
 obtain ⟨hg, _, hP, hr⟩ := facts_of hsub hl
 generalize hX : (⟨-23622320128, 21474836480 + d⟩ : Iv) = X
 have hXl : X.lo = -23622320128 := by rw [← hX]
 have hXh : X.hi = 21474836480 + d := by rw [← hX]
 have hx : Go.G880.qaF X = true := (Go.G880.qcM _).2 (by omega)
 have hE : Ends X ⟨-23622320128, -23622320128⟩ ⟨21474836480, 21474836579⟩ := ⟨by simp only; omega, by simp only; omega, by simp only; omega, by simp only; omega⟩
 have hb : hb ((qeC rs).map pt) (hder ((qeC rs).map pt)) 8 ⟨-23622320128, -23622320128⟩ ⟨21474836480, 21474836579⟩ ≤ 40 := Nat.le_of_ble_eq_true hg
 obtain ⟨s1, s2⟩ := srch_bound hP (by rw [qgG]; omega) 8 61 X _ _ [] [] hx hE (by simp only [List.length_nil]; omega)
 have e8 : ((8 : Nat) : Int) = 8 := rfl
 have e70 : 8 + 1 + 61 = 70 := rfl
 rw [e8, e70] at s1 s2
 obtain ⟨t1, _, _, t4⟩ := srch_sound hP X 70 X 8 [] [] hx (Int.le_refl _) (Int.le_refl _) (fun y hy => by cases hy) s1
 have hc : Go.G880.qbY (rw' (qeC rs)) X 8 = 0 := by
  have w : Go.G880.qbI 8 0 60 = true := by decide
  simp only [Go.G880.qbY, Go.G880.qgO _ (qg5 hP), hP.ok, Go.G880.qd1, hx, w, Bool.not_true, cond_false]
 refine ⟨(srch (rw' (qeC rs)) (sl (rw' (qeC rs))) 70 X 8 [] []).2.1, (srch (rw' (qeC rs)) (sl (rw' (qeC rs))) 70 X 8 [] []).2.2, ?_, by simp only [List.length_nil] at s2; omega, t1, fun i hi => ?_⟩
 ·unfold qg4
  rw [hc, slopes_sl hP, s1]
  rfl
 ·have hb := hr _ (List.getElem_mem hi)
  rcases t4 (rs[i] * 4294967296) (by omega) (qfZ (List.getElem_mem hi)) with ⟨y, hy, h⟩ | ⟨y, hy, h⟩
  ·obtain ⟨t, ht, rfl⟩ := List.getElem_of_mem hy
   exact .inl ⟨t, ht, h⟩
  ·obtain ⟨t, ht, rfl⟩ := List.getElem_of_mem hy
   exact .inr ⟨t, ht, h⟩
end
theorem lawRoots {l0 l1 : List Int} (h0 : Bytes l0) (h1 : Bytes l1) : ∃ k, qaA.f k l0 l1 = some true := by
 by_cases c0 : (l0.length : Int) > 3000
 ·refine ⟨0, ?_⟩
  unfold qaA.f qeU.f
  rw [if_pos c0, Option.bind_some, if_pos rfl]
 by_cases c1 : (l1.length : Int) > 3000
 ·refine ⟨0, ?_⟩
  unfold qaA.f qeU.f
  rw [if_neg c0, decide_eq_true c1, Option.bind_some, if_pos rfl]
 obtain ⟨rs, hrs, hsub, hl1, hl4⟩ := roots_ev h0 (by omega)
 obtain ⟨_, hpre, _, hr⟩ := facts_of hsub ⟨hl1, hl4⟩
 obtain ⟨d, ed, d0, d1⟩ := at_ex h1
 obtain ⟨O, R, eR, hlen, hsure, hfound⟩ := search_ex hsub ⟨hl1, hl4⟩ d ⟨d0, d1⟩
 have n3 := l3_ev (rs := rs) (R := R) hl4 hr (by omega) (by omega) (L := S (qeC rs)) (fun q hq => one_of hsub ⟨hl1, hl4⟩ (hsure _ (List.getElem_mem hq))) O.length 0 (Nat.zero_add _)
 have n0 := l0_ev (rs := rs) (O := O) (R := R) hl4 hr (by omega) (by omega) (L := S (qeC rs)) (val_zero hsub ⟨hl1, hl4⟩) hfound n3 rs.length 0 (Nat.zero_add _)
 have nj : Ev (fun k => qaA.j0 k rs (S (qeC rs)) (O.map toS) (R.map toS) false) true := by
  refine Ev.step (fun k => ?_) n0
  simp only [qaA.j0]
  rw [if_neg (by simp)]
  rfl
 have hp := poly_ev hl4 hpre hr
 have key : Ev (fun k => qaA.f k l0 l1) true := by
  refine Ev.congr (fun k => ?_) (Ev.bind (f := fun k t228 => (qa3.f k t228).bind fun bt231 => ((qeN.f l1 0 100).bind fun t235 => ((qdH.f bt231.1 (-23622320128) (wrap64 (21474836480 + t235)) 8).bind fun bt237 => (if bt231.2 = true then (qaA.j0 k t228 bt231.1 bt237.1 bt237.2.1 (bt237.2.2 != 0)) else (qaA.j0 k t228 bt231.1 bt237.1 bt237.2.1 true))))) hrs
   (Ev.bind (f := fun k bt231 => ((qeN.f l1 0 100).bind fun t235 => ((qdH.f bt231.1 (-23622320128) (wrap64 (21474836480 + t235)) 8).bind fun bt237 => (if bt231.2 = true then (qaA.j0 k rs bt231.1 bt237.1 bt237.2.1 (bt237.2.2 != 0)) else (qaA.j0 k rs bt231.1 bt237.1 bt237.2.1 true))))) hp (Ev.congr (fun k => ?_) nj)))
  ·unfold qaA.f qeU.f
   rw [if_neg c0, decide_eq_false c1, Option.bind_some, if_neg (by simp)]
  ·simp only
   rw [ed, Option.bind_some, qcH (by omega) (by omega)]
   unfold qdH.f
   rw [if_pos (by rw [lenS_, qgG]; omega), rows_S, eR, Option.bind_some]
   rfl
 exact key.rounds
end Go.Proofs.Ytogpbandlpjccaa.TX
