/- The search for roots: the machine walks it. -/
import Derived.Test.YtogpbandlpjccaaRTA
set_option linter.unusedVariables false
set_option linter.unusedSimpArgs false
namespace Go.Proofs.Ytogpbandlpjccaa.TX
open Go.RowKit Go.Proofs.YtogpbandlpjccaaW.PrintWords Go.Proofs.YtogpbandlpjccaaW.PrintLast Go.RX
theorem fewU (u v : List Iv) (x : Iv) (h : u.length + v.length ≤ 64) : decide (wrap64 ((u.length : Int) + 1 + (v.length : Int)) ≤ 64) = decide ((u ++ [x]).length + v.length ≤ 64) := by
 have e : wrap64 ((u.length : Int) + 1 + (v.length : Int)) = (u.length : Int) + 1 + (v.length : Int) := by unfold wrap64; omega
 rw [e, List.length_append, List.length_singleton]
 exact decide_eq_decide.2 (by omega)
theorem fewV (u v : List Iv) (x : Iv) (h : u.length + v.length ≤ 64) : decide (wrap64 ((u.length : Int) + ((v.length : Int) + 1)) ≤ 64) = decide (u.length + (v ++ [x]).length ≤ 64) := by
 have e : wrap64 ((u.length : Int) + ((v.length : Int) + 1)) = (u.length : Int) + ((v.length : Int) + 1) := by unfold wrap64; omega
 rw [e, List.length_append, List.length_singleton]
 exact decide_eq_decide.2 (by omega)
theorem info31_ : (Try.prog.info? 31).map (fun i => (i.zero, i.size, i.bytes)) = some (some (.agg #[(.int .i64 0), (.int .i64 0)]), 2, 16) := by kernel_rfl
theorem uniq_b {b : Bool} {l s : List Value} {x0 x1 : Int} (hq : Go.G880.qaT l ⟨x0, x1⟩ = b) {w0 w : World} {g T : Nat} {pl ps : Pl} {vu vv : Value} {u v : List Iv} (hF : Fin T w0 w g pl ps s vu vv u v) (hl : Rd pl l w0) (hl2 : l.length ≤ 1048576) :
  Calls Try.prog 17 #[.slice pl.ha pl.hl pl.hc, .agg #[.int .i64 x0, .int .i64 x1]] w fun e w' => e = .returned (.bool b) ∧ Below w.heap.size w w' := hq ▸ uniqueRoot_ (x := ⟨x0, x1⟩) hl2 (hl.below hF.below)
theorem qgB {b : Bool} {l s : List Value} {x0 x1 : Int} (hq : qe4 l s ⟨x0, x1⟩ = b) {w0 w : World} {g : Nat} {pl ps : Pl} {vu vv : Value} {u v : List Iv} (hF : Fin 62 w0 w g pl ps s vu vv u v) (hl : Rd pl l w0) (hl2 : l.length ≤ 1048576) (hs2 : s.length ≤ 1048576) (hn : (ps.ha = none ∧ ps.hl = 0 ∧ ps.hc = 0 ∧ s = []) ∨ (ps.ha.isSome = true ∧ s.isEmpty = false)) :
  Calls Try.prog 69 #[.pointer (some ⟨g, 0, none⟩), .agg #[.int .i64 x0, .int .i64 x1]] w fun e w' => e = .returned (.bool b) ∧ Below w.heap.size w w' := hq ▸ rootless_ w g pl ps l s x0 x1 vu vv hF.blk (hl.below hF.below) hF.sl hl2 hs2 hn
section
variable {l s : List Value} {pl ps : Pl} (hl2 : l.length ≤ 1048576) (hs2 : s.length ≤ 1048576) (hn : (ps.ha = none ∧ ps.hl = 0 ∧ ps.hc = 0 ∧ s = []) ∨ (ps.ha.isSome = true ∧ s.isEmpty = false)) {w0 : World} (hl : Rd pl l w0) {g : Nat} (hg : w0.heap.size ≤ g)
include hl2 hs2 hn hl hg
set_option maxHeartbeats 8000000 in
set_option maxRecDepth 100000 in
theorem search_ : ∀ (k : Nat) (w : World) (vu vv : Value) (u v : List Iv) (x0 x1 d : Int), Fin 62 w0 w g pl ps s vu vv u v → 0 ≤ d → d < (k : Int) → (k : Int) ≤ 100 → u.length + v.length ≤ 64 →
  Calls Try.prog 32 #[.pointer (some ⟨g, 0, none⟩), .agg #[.int .i64 x0, .int .i64 x1], .int .i64 d] w fun e w' => e = .returned (.bool (srch l s k ⟨x0, x1⟩ d u v).1) ∧ ∃ vu' vv', Fin 62 w0 w' g pl ps s vu' vv' (srch l s k ⟨x0, x1⟩ d u v).2.1 (srch l s k ⟨x0, x1⟩ d u v).2.2 ∧ Fr w w' g vu vv vu' vv' := by
 have hu31 := Try.underlying31
 have hu62 := Try.underlying62
 have hu26 := Try.underlying26
 intro k
 induction k with
 | zero => intro w vu vv u v x0 x1 d _ h0 h1; omega
 | succ k ih =>
 intro w vu vv u v x0 x1 d hF h0 hk hk2 hc
 unfold srch
 have ou : ∀ k, vu.ownBlock = some k → k < w.heap.size := fun k hk => own_lt_ hF.u hk
 have ov : ∀ k, vv.ownBlock = some k → k < w.heap.size := fun k hk => own_lt_ hF.v hk
 cases q1 : qe4 l s ⟨x0, x1⟩ with
 | true =>
  simp only [cond_true]
  go_enter Try.func32, Try.ntmps32
  go_wp2_with (first | ((with_reducible refine qcR (N := 4) rfl ?_); refine qcY ?hg (N := 4) ?hd (cs := #[.int .i64 x0, .int .i64 x1]) (t := 31) ?hr ?_; (case hd => rfl); (case hg => rfl); (case hr => first | (go_simp; done) | (go_simp; rfl)); intro gx hgx w1 hx hb1; have nx := Aside0.mk (show w.heap.size ≤ gx by rw [hgx]; exact Nat.le_refl _); replace hF := hF.move hb1; have hfr := Fr.of_below (g := g) (vu := vu) (vv := vv) hb1; have e0 := (qaD hx 0).trans rfl; have e1 := (qaD hx 1).trans rfl; clear hgx) | ((with_reducible refine qaV (f := 69) rfl ?_); refine qcL (some 31) rfl rfl Try.func69 (by kernel_rfl) rfl #[.pointer (some ⟨g, 0, none⟩), .agg #[.int .i64 x0, .int .i64 x1]] rfl (by (try simp only [List.map_toArray, List.map_cons, List.map_nil]); first | done | rfl | (simp only [List.length_drop, List.length_take]; rfl)) ?_; refine (qgB q1 (hF.move qb) hl hl2 hs2 hn).mono ?_; rintro e w2 ⟨rfl, hb2⟩; refine ⟨_, rfl, ?_⟩))
  go_ret
  exact ⟨rfl, _, _, hF.move (qaC qb (qaC hb2 qb)), hfr.trans (Fr.of_below (qaC qb (qaC hb2 qb)))⟩
 | false =>
 simp only [cond_false]
 cases q2 : Go.G880.qaT l ⟨x0, x1⟩ with
 | true =>
  simp only [cond_true]
  go_enter Try.func32, Try.ntmps32
  go_wp2_with (first | ((with_reducible refine qcR (N := 4) rfl ?_); refine qcY ?hg (N := 4) ?hd (cs := #[.int .i64 x0, .int .i64 x1]) (t := 31) ?hr ?_; (case hd => rfl); (case hg => rfl); (case hr => first | (go_simp; done) | (go_simp; rfl)); intro gx hgx w1 hx hb1; have nx := Aside0.mk (show w.heap.size ≤ gx by rw [hgx]; exact Nat.le_refl _); replace hF := hF.move hb1; have hfr := Fr.of_below (g := g) (vu := vu) (vv := vv) hb1; have e0 := (qaD hx 0).trans rfl; have e1 := (qaD hx 1).trans rfl; clear hgx) | ((with_reducible refine qaV (f := 69) rfl ?_); refine qcL (some 31) rfl rfl Try.func69 (by kernel_rfl) rfl #[.pointer (some ⟨g, 0, none⟩), .agg #[.int .i64 x0, .int .i64 x1]] rfl (by (try simp only [List.map_toArray, List.map_cons, List.map_nil]); first | done | rfl | (simp only [List.length_drop, List.length_take]; rfl)) ?_; refine (qgB q1 (hF.move qb) hl hl2 hs2 hn).mono ?_; rintro e w2 ⟨rfl, hb2⟩; refine ⟨_, rfl, ?_⟩))
  replace hF := hF.move (qaC qb hb2)
  replace hfr := hfr.trans (Fr.of_below (qaC qb hb2))
  replace hx := qaM hx (qaC qb hb2)
  clear hb1 hb2
  refine qd3 (n := 7) (S := fun w' => w'.cell? ⟨g, 0, none⟩ = some (.slice pl.ha pl.hl pl.hc) ∧ w'.cell? ⟨g, 2, none⟩ = some vu ∧ w'.cell? ⟨g, 3, none⟩ = some vv ∧ w'.cell? ⟨gx, 0, none⟩ = some (.int .i64 x0) ∧ w'.cell? ⟨gx, 1, none⟩ = some (.int .i64 x1)) (ds := []) #[false, false, false, false, false, false, false] (by kernel_rfl) rfl rfl (⟨(qaD hF.blk 0).trans rfl, (qaD hF.blk 2).trans rfl, (qaD hF.blk 3).trans rfl, (qaD hx 0).trans rfl, (qaD hx 1).trans rfl⟩) (fun hH => ?_)
  replace hF := hF.drew
  replace hfr := hfr.trans (Fr.of_below (qbH (Below.refl _ _)))
  replace hx := qbQ hx
  generalize World.drew _ = wr at hF hx hfr hH ⊢
  refine pC 0 (some 33) ?_
  refine pC 1 (some 34) ?_
  refine pC 2 (some 35) ?_
  refine tC 3 (some 36) hH ?_
  refine tC 4 (some 37) hH ?_
  refine oC 5 (some 38) fun K hK => ?_
  refine gs Try.func17 #[.slice pl.ha pl.hl pl.hc, .agg #[.int .i64 x0, .int .i64 x1]] rfl ?_
  refine (uniq_b q2 hF hl hl2).mono ?_
  rintro e w3 ⟨rfl, hb3⟩
  refine ⟨_, rfl, ?_⟩
  refine hK.out _ _ ⟨cb hb3 hH.1, cb hb3 hH.2.1, cb hb3 hH.2.2.1, cb hb3 hH.2.2.2.1, cb hb3 hH.2.2.2.2⟩ (fun hH => ?_)
  clear hK K
  refine nA (some 38) ?_
  replace hF := hF.move hb3
  replace hfr := hfr.trans (Fr.of_below hb3)
  replace hx := qaM hx hb3
  clear hb3
  refine pC 6 (some 32) ?_
  refine qfD (by kernel_rfl) ?_
  go_wp2
  refine qd3 (n := 11) (S := fun w' => w'.cell? ⟨g, 0, none⟩ = some (.slice pl.ha pl.hl pl.hc) ∧ w'.cell? ⟨g, 2, none⟩ = some vu ∧ w'.cell? ⟨g, 3, none⟩ = some vv ∧ w'.cell? ⟨gx, 0, none⟩ = some (.int .i64 x0) ∧ w'.cell? ⟨gx, 1, none⟩ = some (.int .i64 x1)) (ds := [10]) #[false, false, false, false, false, false, false, false, false, false, false] (by kernel_rfl) rfl rfl (⟨(qaD hF.blk 0).trans rfl, (qaD hF.blk 2).trans rfl, (qaD hF.blk 3).trans rfl, (qaD hx 0).trans rfl, (qaD hx 1).trans rfl⟩) (fun hH => ?_)
  replace hF := hF.drew
  replace hfr := hfr.trans (Fr.of_below (qbH (Below.refl _ _)))
  replace hx := qbQ hx
  generalize World.drew _ = wr at hF hx hfr hH ⊢
  refine pC 0 (some 39) ?_
  refine pC 1 (some 40) ?_
  refine pC 2 (some 41) ?_
  refine pC 3 (some 42) ?_
  refine tC 4 (some 43) hH ?_
  refine tC 5 (some 44) hH ?_
  refine oC 6 (some 45) fun K hK => ?_
  refine value_ (w1 := wr.alloc (.cells [.int .i64 x0, .int .i64 x1].toArray 31)) (v := .slice (some ⟨wr.heap.size, 0, none⟩) 1 1) (by rfl) rfl (by first | (go_simp; done) | (go_simp; rfl)) ?_
  refine hK.out _ _ ⟨cb (qcK (Below.refl _ _) _) hH.1, cb (qcK (Below.refl _ _) _) hH.2.1, cb (qcK (Below.refl _ _) _) hH.2.2.1, cb (qcK (Below.refl _ _) _) hH.2.2.2.1, cb (qcK (Below.refl _ _) _) hH.2.2.2.2⟩ (fun hH => ?_)
  clear hK K
  refine nA (some 45) ?_
  refine oC 7 (some 46) fun K hK => ?_
  refine Kd.R_append_step kIv (w0 := w0) (W := wr) w0.heap.size (by rfl) (.tmp 43) (.tmp 45) 26 31 (.agg #[.int .i64 0, .int .i64 0]) 16 rfl hu26 info31_ rfl (by decide) (by decide) vu u ⟨x0, x1⟩ _ (fun _ => True) (fun _ => False) rfl rfl (kIv_mk _ _ _ ⟨x0, x1⟩) (fun _ h => h.elim) (fun _ _ => trivial) hF.u hF.below hF.below.size (by omega) ?_
  intro v1 w4 hr hb4 hg4 hat
  obtain ⟨a0, n0, e0_⟩ := Kd.R_slice hr
  rw [show (u ++ [(⟨x0, x1⟩ : Iv)]).length = u.length + 1 by simp] at e0_
  subst e0_
  have hblk := (hg4.block g hF.lt (hF.gu (by decide))).trans hF.blk
  replace hx := (hg4.block gx (qeQ hx) (fun e => Nat.lt_irrefl _ (Nat.lt_of_lt_of_le (ou gx e.symm) nx.out))).trans hx
  refine hK.out _ _ ⟨(qaD hblk 0).trans rfl, (qaD hblk 2).trans rfl, (qaD hblk 3).trans rfl, (qaD hx 0).trans rfl, (qaD hx 1).trans rfl⟩ (fun hH => ?_)
  clear hK K
  refine nA (some 46) ?_
  refine pC 8 (some 47) ?_
  refine pC 9 (some 48) ?_
  refine last_ (i := 10) (N := none) #[true, true, true, true, true, true, true, true, true, true, true] rfl rfl (by kernel_rfl) (by decide) (fun K hK => ?_)
  have hs_ : w4.cell? ⟨g, 2, none⟩ = some vu := (qaD hblk 2).trans rfl
  have hfs_ := qbZ hblk 2
  refine skip_ (w1 := w4.setCell ⟨g, 2, none⟩ (.slice a0 _ n0)) (by rfl) rfl (by first | (go_simp; done) | (go_simp; rfl)) ?_
  refine hK.out _ _ ?_
  clear hK K
  obtain ⟨hF2, hfr2⟩ := hF.putU (by decide) hg hr hb4 hg4 hat
  replace hfr := hfr.trans hfr2
  generalize w4.setCell ⟨g, 2, none⟩ (.slice a0 _ n0) = w5 at hF2 hfr ⊢
  refine qfD (by kernel_rfl) ?_
  clear hH hs_ hfs_ hblk hx hfr2 hat hg4 hb4 hr hF
  go_wp2
  obtain ⟨a2, n2, e2⟩ := Kd.R_slice hF2.v
  subst e2
  refine qd3 (n := 13) (S := fun w' => w'.cell? ⟨g, 2, none⟩ = some (.slice a0 (u.length + 1) n0) ∧ w'.cell? ⟨g, 3, none⟩ = some (.slice a2 v.length n2)) (ds := []) #[false, false, false, false, false, false, false, false, false, false, false, false, false] (by kernel_rfl) rfl rfl (⟨(qaD hF2.blk 2).trans rfl, (qaD hF2.blk 3).trans rfl⟩) (fun hH => ?_)
  replace hF2 := hF2.drew
  replace hfr := hfr.trans (Fr.of_below (qbH (Below.refl _ _)))
  generalize World.drew _ = wr at hF2 hfr hH ⊢
  refine pC 0 (some 67) ?_
  refine pC 1 (some 68) ?_
  refine pC 2 (some 69) ?_
  refine tC 3 (some 70) hH ?_
  refine pC 4 (some 71) ?_
  refine pC 5 (some 72) ?_
  refine pC 6 (some 73) ?_
  refine pC 7 (some 74) ?_
  refine tC 8 (some 75) hH ?_
  refine pC 9 (some 76) ?_
  refine pC 10 (some 77) ?_
  refine pC 11 (some 78) ?_
  refine pC 12 (some 6) ?_
  refine qfD (by kernel_rfl) ?_
  go_wp2
  go_ret
  exact ⟨congrArg (fun b => Ending.returned (.bool b)) (fewU u v ⟨x0, x1⟩ hc), _, _, hF2.move qb, hfr.trans (Fr.of_below qb)⟩
 | false =>
 simp only [cond_false]
 cases q3 : (d == 0 || decide (Go.G880.qdF ⟨x0, x1⟩ < 2)) with
 | true =>
  simp only [cond_true]
  by_cases hd : d = 0
  ·have hd0 : (d == 0) = true := beq_iff_eq.2 hd
   go_enter Try.func32, Try.ntmps32
   go_wp2_with (first | ((with_reducible refine qcR (N := 4) rfl ?_); refine qcY ?hg (N := 4) ?hd (cs := #[.int .i64 x0, .int .i64 x1]) (t := 31) ?hr ?_; (case hd => rfl); (case hg => rfl); (case hr => first | (go_simp; done) | (go_simp; rfl)); intro gx hgx w1 hx hb1; have nx := Aside0.mk (show w.heap.size ≤ gx by rw [hgx]; exact Nat.le_refl _); replace hF := hF.move hb1; have hfr := Fr.of_below (g := g) (vu := vu) (vv := vv) hb1; have e0 := (qaD hx 0).trans rfl; have e1 := (qaD hx 1).trans rfl; clear hgx) | ((with_reducible refine qaV (f := 69) rfl ?_); refine qcL (some 31) rfl rfl Try.func69 (by kernel_rfl) rfl #[.pointer (some ⟨g, 0, none⟩), .agg #[.int .i64 x0, .int .i64 x1]] rfl (by (try simp only [List.map_toArray, List.map_cons, List.map_nil]); first | done | rfl | (simp only [List.length_drop, List.length_take]; rfl)) ?_; refine (qgB q1 (hF.move qb) hl hl2 hs2 hn).mono ?_; rintro e w2 ⟨rfl, hb2⟩; refine ⟨_, rfl, ?_⟩))
   replace hF := hF.move (qaC qb hb2)
   replace hfr := hfr.trans (Fr.of_below (qaC qb hb2))
   replace hx := qaM hx (qaC qb hb2)
   clear hb1 hb2
   refine qd3 (n := 7) (S := fun w' => w'.cell? ⟨g, 0, none⟩ = some (.slice pl.ha pl.hl pl.hc) ∧ w'.cell? ⟨g, 2, none⟩ = some vu ∧ w'.cell? ⟨g, 3, none⟩ = some vv ∧ w'.cell? ⟨gx, 0, none⟩ = some (.int .i64 x0) ∧ w'.cell? ⟨gx, 1, none⟩ = some (.int .i64 x1)) (ds := []) #[false, false, false, false, false, false, false] (by kernel_rfl) rfl rfl (⟨(qaD hF.blk 0).trans rfl, (qaD hF.blk 2).trans rfl, (qaD hF.blk 3).trans rfl, (qaD hx 0).trans rfl, (qaD hx 1).trans rfl⟩) (fun hH => ?_)
   replace hF := hF.drew
   replace hfr := hfr.trans (Fr.of_below (qbH (Below.refl _ _)))
   replace hx := qbQ hx
   generalize World.drew _ = wr at hF hx hfr hH ⊢
   refine pC 0 (some 33) ?_
   refine pC 1 (some 34) ?_
   refine pC 2 (some 35) ?_
   refine tC 3 (some 36) hH ?_
   refine tC 4 (some 37) hH ?_
   refine oC 5 (some 38) fun K hK => ?_
   refine gs Try.func17 #[.slice pl.ha pl.hl pl.hc, .agg #[.int .i64 x0, .int .i64 x1]] rfl ?_
   refine (uniq_b q2 hF hl hl2).mono ?_
   rintro e w3 ⟨rfl, hb3⟩
   refine ⟨_, rfl, ?_⟩
   refine hK.out _ _ ⟨cb hb3 hH.1, cb hb3 hH.2.1, cb hb3 hH.2.2.1, cb hb3 hH.2.2.2.1, cb hb3 hH.2.2.2.2⟩ (fun hH => ?_)
   clear hK K
   refine nA (some 38) ?_
   replace hF := hF.move hb3
   replace hfr := hfr.trans (Fr.of_below hb3)
   replace hx := qaM hx hb3
   clear hb3
   refine pC 6 (some 32) ?_
   refine qfD (by kernel_rfl) ?_
   have e0 := (qaD hx 0).trans rfl
   have e1 := (qaD hx 1).trans rfl
   go_wp2
   refine qd3 (n := 11) (S := fun w' => w'.cell? ⟨g, 0, none⟩ = some (.slice pl.ha pl.hl pl.hc) ∧ w'.cell? ⟨g, 2, none⟩ = some vu ∧ w'.cell? ⟨g, 3, none⟩ = some vv ∧ w'.cell? ⟨gx, 0, none⟩ = some (.int .i64 x0) ∧ w'.cell? ⟨gx, 1, none⟩ = some (.int .i64 x1)) (ds := [10]) #[false, false, false, false, false, false, false, false, false, false, false] (by kernel_rfl) rfl rfl (⟨(qaD hF.blk 0).trans rfl, (qaD hF.blk 2).trans rfl, (qaD hF.blk 3).trans rfl, (qaD hx 0).trans rfl, (qaD hx 1).trans rfl⟩) (fun hH => ?_)
   replace hF := hF.drew
   replace hfr := hfr.trans (Fr.of_below (qbH (Below.refl _ _)))
   replace hx := qbQ hx
   generalize World.drew _ = wr at hF hx hfr hH ⊢
   refine pC 0 (some 57) ?_
   refine pC 1 (some 58) ?_
   refine pC 2 (some 59) ?_
   refine pC 3 (some 60) ?_
   refine tC 4 (some 61) hH ?_
   refine tC 5 (some 62) hH ?_
   refine oC 6 (some 63) fun K hK => ?_
   refine value_ (w1 := wr.alloc (.cells [.int .i64 x0, .int .i64 x1].toArray 31)) (v := .slice (some ⟨wr.heap.size, 0, none⟩) 1 1) (by rfl) rfl (by first | (go_simp; done) | (go_simp; rfl)) ?_
   refine hK.out _ _ ⟨cb (qcK (Below.refl _ _) _) hH.1, cb (qcK (Below.refl _ _) _) hH.2.1, cb (qcK (Below.refl _ _) _) hH.2.2.1, cb (qcK (Below.refl _ _) _) hH.2.2.2.1, cb (qcK (Below.refl _ _) _) hH.2.2.2.2⟩ (fun hH => ?_)
   clear hK K
   refine nA (some 63) ?_
   refine oC 7 (some 64) fun K hK => ?_
   refine Kd.R_append_step kIv (w0 := w0) (W := wr) w0.heap.size (by rfl) (.tmp 61) (.tmp 63) 26 31 (.agg #[.int .i64 0, .int .i64 0]) 16 rfl hu26 info31_ rfl (by decide) (by decide) vv v ⟨x0, x1⟩ _ (fun _ => True) (fun _ => False) rfl rfl (kIv_mk _ _ _ ⟨x0, x1⟩) (fun _ h => h.elim) (fun _ _ => trivial) hF.v hF.below hF.below.size (by omega) ?_
   intro v1 w4 hr hb4 hg4 hat
   obtain ⟨a0, n0, e0_⟩ := Kd.R_slice hr
   rw [show (v ++ [(⟨x0, x1⟩ : Iv)]).length = v.length + 1 by simp] at e0_
   subst e0_
   have hblk := (hg4.block g hF.lt (hF.gv (by decide))).trans hF.blk
   replace hx := (hg4.block gx (qeQ hx) (fun e => Nat.lt_irrefl _ (Nat.lt_of_lt_of_le (ov gx e.symm) nx.out))).trans hx
   refine hK.out _ _ ⟨(qaD hblk 0).trans rfl, (qaD hblk 2).trans rfl, (qaD hblk 3).trans rfl, (qaD hx 0).trans rfl, (qaD hx 1).trans rfl⟩ (fun hH => ?_)
   clear hK K
   refine nA (some 64) ?_
   refine pC 8 (some 65) ?_
   refine pC 9 (some 66) ?_
   refine last_ (i := 10) (N := none) #[true, true, true, true, true, true, true, true, true, true, true] rfl rfl (by kernel_rfl) (by decide) (fun K hK => ?_)
   have hs_ : w4.cell? ⟨g, 3, none⟩ = some vv := (qaD hblk 3).trans rfl
   have hfs_ := qbZ hblk 3
   refine skip_ (w1 := w4.setCell ⟨g, 3, none⟩ (.slice a0 _ n0)) (by rfl) rfl (by first | (go_simp; done) | (go_simp; rfl)) ?_
   refine hK.out _ _ ?_
   clear hK K
   obtain ⟨hF2, hfr2⟩ := hF.putV (by decide) hg hr hb4 hg4 hat
   replace hfr := hfr.trans hfr2
   generalize w4.setCell ⟨g, 3, none⟩ (.slice a0 _ n0) = w5 at hF2 hfr ⊢
   refine qfD (by kernel_rfl) ?_
   clear hH hs_ hfs_ hblk hx hfr2 hat hg4 hb4 hr hF
   go_wp2
   obtain ⟨a1, n1, e1⟩ := Kd.R_slice hF2.u
   subst e1
   refine qd3 (n := 13) (S := fun w' => w'.cell? ⟨g, 2, none⟩ = some (.slice a1 u.length n1) ∧ w'.cell? ⟨g, 3, none⟩ = some (.slice a0 (v.length + 1) n0)) (ds := []) #[false, false, false, false, false, false, false, false, false, false, false, false, false] (by kernel_rfl) rfl rfl (⟨(qaD hF2.blk 2).trans rfl, (qaD hF2.blk 3).trans rfl⟩) (fun hH => ?_)
   replace hF2 := hF2.drew
   replace hfr := hfr.trans (Fr.of_below (qbH (Below.refl _ _)))
   generalize World.drew _ = wr at hF2 hfr hH ⊢
   refine pC 0 (some 67) ?_
   refine pC 1 (some 68) ?_
   refine pC 2 (some 69) ?_
   refine tC 3 (some 70) hH ?_
   refine pC 4 (some 71) ?_
   refine pC 5 (some 72) ?_
   refine pC 6 (some 73) ?_
   refine pC 7 (some 74) ?_
   refine tC 8 (some 75) hH ?_
   refine pC 9 (some 76) ?_
   refine pC 10 (some 77) ?_
   refine pC 11 (some 78) ?_
   refine pC 12 (some 6) ?_
   refine qfD (by kernel_rfl) ?_
   go_wp2
   go_ret
   exact ⟨congrArg (fun b => Ending.returned (.bool b)) (fewV u v ⟨x0, x1⟩ hc), _, _, hF2.move qb, hfr.trans (Fr.of_below qb)⟩
  ·have hd0 : (d == 0) = false := beq_eq_false_iff_ne.2 hd
   have hw2 : decide (Go.G880.qdF ⟨x0, x1⟩ < 2) = true := by rw [hd0, Bool.false_or] at q3; exact q3
   go_enter Try.func32, Try.ntmps32
   go_wp2_with (first | ((with_reducible refine qcR (N := 4) rfl ?_); refine qcY ?hg (N := 4) ?hd (cs := #[.int .i64 x0, .int .i64 x1]) (t := 31) ?hr ?_; (case hd => rfl); (case hg => rfl); (case hr => first | (go_simp; done) | (go_simp; rfl)); intro gx hgx w1 hx hb1; have nx := Aside0.mk (show w.heap.size ≤ gx by rw [hgx]; exact Nat.le_refl _); replace hF := hF.move hb1; have hfr := Fr.of_below (g := g) (vu := vu) (vv := vv) hb1; have e0 := (qaD hx 0).trans rfl; have e1 := (qaD hx 1).trans rfl; clear hgx) | ((with_reducible refine qaV (f := 69) rfl ?_); refine qcL (some 31) rfl rfl Try.func69 (by kernel_rfl) rfl #[.pointer (some ⟨g, 0, none⟩), .agg #[.int .i64 x0, .int .i64 x1]] rfl (by (try simp only [List.map_toArray, List.map_cons, List.map_nil]); first | done | rfl | (simp only [List.length_drop, List.length_take]; rfl)) ?_; refine (qgB q1 (hF.move qb) hl hl2 hs2 hn).mono ?_; rintro e w2 ⟨rfl, hb2⟩; refine ⟨_, rfl, ?_⟩))
   replace hF := hF.move (qaC qb hb2)
   replace hfr := hfr.trans (Fr.of_below (qaC qb hb2))
   replace hx := qaM hx (qaC qb hb2)
   clear hb1 hb2
   refine qd3 (n := 7) (S := fun w' => w'.cell? ⟨g, 0, none⟩ = some (.slice pl.ha pl.hl pl.hc) ∧ w'.cell? ⟨g, 2, none⟩ = some vu ∧ w'.cell? ⟨g, 3, none⟩ = some vv ∧ w'.cell? ⟨gx, 0, none⟩ = some (.int .i64 x0) ∧ w'.cell? ⟨gx, 1, none⟩ = some (.int .i64 x1)) (ds := []) #[false, false, false, false, false, false, false] (by kernel_rfl) rfl rfl (⟨(qaD hF.blk 0).trans rfl, (qaD hF.blk 2).trans rfl, (qaD hF.blk 3).trans rfl, (qaD hx 0).trans rfl, (qaD hx 1).trans rfl⟩) (fun hH => ?_)
   replace hF := hF.drew
   replace hfr := hfr.trans (Fr.of_below (qbH (Below.refl _ _)))
   replace hx := qbQ hx
   generalize World.drew _ = wr at hF hx hfr hH ⊢
   refine pC 0 (some 33) ?_
   refine pC 1 (some 34) ?_
   refine pC 2 (some 35) ?_
   refine tC 3 (some 36) hH ?_
   refine tC 4 (some 37) hH ?_
   refine oC 5 (some 38) fun K hK => ?_
   refine gs Try.func17 #[.slice pl.ha pl.hl pl.hc, .agg #[.int .i64 x0, .int .i64 x1]] rfl ?_
   refine (uniq_b q2 hF hl hl2).mono ?_
   rintro e w3 ⟨rfl, hb3⟩
   refine ⟨_, rfl, ?_⟩
   refine hK.out _ _ ⟨cb hb3 hH.1, cb hb3 hH.2.1, cb hb3 hH.2.2.1, cb hb3 hH.2.2.2.1, cb hb3 hH.2.2.2.2⟩ (fun hH => ?_)
   clear hK K
   refine nA (some 38) ?_
   replace hF := hF.move hb3
   replace hfr := hfr.trans (Fr.of_below hb3)
   replace hx := qaM hx hb3
   clear hb3
   refine pC 6 (some 32) ?_
   refine qfD (by kernel_rfl) ?_
   have e0 := (qaD hx 0).trans rfl
   have e1 := (qaD hx 1).trans rfl
   go_wp2_with (first | ((with_reducible refine qaV (f := 70) rfl ?_); refine qfN (by rfl) ?_; refine qcL (some 54) rfl rfl Try.func70 (by kernel_rfl) rfl #[.agg #[.int .i64 x0, .int .i64 x1]] rfl (by (try simp only [List.map_toArray, List.map_cons, List.map_nil]); first | done | rfl | (simp only [List.length_drop, List.length_take]; rfl)) ?_; refine (widthI_ ⟨x0, x1⟩ _).mono ?_; rintro e w3 ⟨rfl, hb3⟩; refine ⟨_, rfl, ?_⟩))
   replace hF := hF.move (qaC qb hb3)
   replace hfr := hfr.trans (Fr.of_below (qaC qb hb3))
   replace hx := qaM hx (qaC qb hb3)
   clear hb3
   refine qd3 (n := 11) (S := fun w' => w'.cell? ⟨g, 0, none⟩ = some (.slice pl.ha pl.hl pl.hc) ∧ w'.cell? ⟨g, 2, none⟩ = some vu ∧ w'.cell? ⟨g, 3, none⟩ = some vv ∧ w'.cell? ⟨gx, 0, none⟩ = some (.int .i64 x0) ∧ w'.cell? ⟨gx, 1, none⟩ = some (.int .i64 x1)) (ds := [10]) #[false, false, false, false, false, false, false, false, false, false, false] (by kernel_rfl) rfl rfl (⟨(qaD hF.blk 0).trans rfl, (qaD hF.blk 2).trans rfl, (qaD hF.blk 3).trans rfl, (qaD hx 0).trans rfl, (qaD hx 1).trans rfl⟩) (fun hH => ?_)
   replace hF := hF.drew
   replace hfr := hfr.trans (Fr.of_below (qbH (Below.refl _ _)))
   replace hx := qbQ hx
   generalize World.drew _ = wr at hF hx hfr hH ⊢
   refine pC 0 (some 57) ?_
   refine pC 1 (some 58) ?_
   refine pC 2 (some 59) ?_
   refine pC 3 (some 60) ?_
   refine tC 4 (some 61) hH ?_
   refine tC 5 (some 62) hH ?_
   refine oC 6 (some 63) fun K hK => ?_
   refine value_ (w1 := wr.alloc (.cells [.int .i64 x0, .int .i64 x1].toArray 31)) (v := .slice (some ⟨wr.heap.size, 0, none⟩) 1 1) (by rfl) rfl (by first | (go_simp; done) | (go_simp; rfl)) ?_
   refine hK.out _ _ ⟨cb (qcK (Below.refl _ _) _) hH.1, cb (qcK (Below.refl _ _) _) hH.2.1, cb (qcK (Below.refl _ _) _) hH.2.2.1, cb (qcK (Below.refl _ _) _) hH.2.2.2.1, cb (qcK (Below.refl _ _) _) hH.2.2.2.2⟩ (fun hH => ?_)
   clear hK K
   refine nA (some 63) ?_
   refine oC 7 (some 64) fun K hK => ?_
   refine Kd.R_append_step kIv (w0 := w0) (W := wr) w0.heap.size (by rfl) (.tmp 61) (.tmp 63) 26 31 (.agg #[.int .i64 0, .int .i64 0]) 16 rfl hu26 info31_ rfl (by decide) (by decide) vv v ⟨x0, x1⟩ _ (fun _ => True) (fun _ => False) rfl rfl (kIv_mk _ _ _ ⟨x0, x1⟩) (fun _ h => h.elim) (fun _ _ => trivial) hF.v hF.below hF.below.size (by omega) ?_
   intro v1 w4 hr hb4 hg4 hat
   obtain ⟨a0, n0, e0_⟩ := Kd.R_slice hr
   rw [show (v ++ [(⟨x0, x1⟩ : Iv)]).length = v.length + 1 by simp] at e0_
   subst e0_
   have hblk := (hg4.block g hF.lt (hF.gv (by decide))).trans hF.blk
   replace hx := (hg4.block gx (qeQ hx) (fun e => Nat.lt_irrefl _ (Nat.lt_of_lt_of_le (ov gx e.symm) nx.out))).trans hx
   refine hK.out _ _ ⟨(qaD hblk 0).trans rfl, (qaD hblk 2).trans rfl, (qaD hblk 3).trans rfl, (qaD hx 0).trans rfl, (qaD hx 1).trans rfl⟩ (fun hH => ?_)
   clear hK K
   refine nA (some 64) ?_
   refine pC 8 (some 65) ?_
   refine pC 9 (some 66) ?_
   refine last_ (i := 10) (N := none) #[true, true, true, true, true, true, true, true, true, true, true] rfl rfl (by kernel_rfl) (by decide) (fun K hK => ?_)
   have hs_ : w4.cell? ⟨g, 3, none⟩ = some vv := (qaD hblk 3).trans rfl
   have hfs_ := qbZ hblk 3
   refine skip_ (w1 := w4.setCell ⟨g, 3, none⟩ (.slice a0 _ n0)) (by rfl) rfl (by first | (go_simp; done) | (go_simp; rfl)) ?_
   refine hK.out _ _ ?_
   clear hK K
   obtain ⟨hF2, hfr2⟩ := hF.putV (by decide) hg hr hb4 hg4 hat
   replace hfr := hfr.trans hfr2
   generalize w4.setCell ⟨g, 3, none⟩ (.slice a0 _ n0) = w5 at hF2 hfr ⊢
   refine qfD (by kernel_rfl) ?_
   clear hH hs_ hfs_ hblk hx hfr2 hat hg4 hb4 hr hF
   go_wp2
   obtain ⟨a1, n1, e1⟩ := Kd.R_slice hF2.u
   subst e1
   refine qd3 (n := 13) (S := fun w' => w'.cell? ⟨g, 2, none⟩ = some (.slice a1 u.length n1) ∧ w'.cell? ⟨g, 3, none⟩ = some (.slice a0 (v.length + 1) n0)) (ds := []) #[false, false, false, false, false, false, false, false, false, false, false, false, false] (by kernel_rfl) rfl rfl (⟨(qaD hF2.blk 2).trans rfl, (qaD hF2.blk 3).trans rfl⟩) (fun hH => ?_)
   replace hF2 := hF2.drew
   replace hfr := hfr.trans (Fr.of_below (qbH (Below.refl _ _)))
   generalize World.drew _ = wr at hF2 hfr hH ⊢
   refine pC 0 (some 67) ?_
   refine pC 1 (some 68) ?_
   refine pC 2 (some 69) ?_
   refine tC 3 (some 70) hH ?_
   refine pC 4 (some 71) ?_
   refine pC 5 (some 72) ?_
   refine pC 6 (some 73) ?_
   refine pC 7 (some 74) ?_
   refine tC 8 (some 75) hH ?_
   refine pC 9 (some 76) ?_
   refine pC 10 (some 77) ?_
   refine pC 11 (some 78) ?_
   refine pC 12 (some 6) ?_
   refine qfD (by kernel_rfl) ?_
   go_wp2
   go_ret
   exact ⟨congrArg (fun b => Ending.returned (.bool b)) (fewV u v ⟨x0, x1⟩ hc), _, _, hF2.move qb, hfr.trans (Fr.of_below qb)⟩
 | false =>
  simp only [cond_false]
  have hd0 : (d == 0) = false := by cases hh : (d == 0) with | true => rw [hh] at q3; simp at q3 | false => rfl
  have hw2 : decide (Go.G880.qdF ⟨x0, x1⟩ < 2) = false := by rw [hd0, Bool.false_or] at q3; exact q3
  have hdn : d ≠ 0 := beq_eq_false_iff_ne.1 hd0
  have hd1 : wrap64 (d - 1) = d - 1 := by unfold wrap64; omega
  have gl : g < w.heap.size := hF.lt
  have ih1 : ∀ (w : World) (vu vv : Value) (u v : List Iv) (y0 y1 : Int) (b : Bool), (srch l s k ⟨y0, y1⟩ (d - 1) u v).1 = b → Fin 62 w0 w g pl ps s vu vv u v → u.length + v.length ≤ 64 →
    Calls Try.prog 32 #[.pointer (some ⟨g, 0, none⟩), .agg #[.int .i64 y0, .int .i64 y1], .int .i64 (d - 1)] w fun e w' => e = .returned (.bool b) ∧ ∃ vu' vv', Fin 62 w0 w' g pl ps s vu' vv' (srch l s k ⟨y0, y1⟩ (d - 1) u v).2.1 (srch l s k ⟨y0, y1⟩ (d - 1) u v).2.2 ∧ Fr w w' g vu vv vu' vv' := by
   intro w vu vv u v y0 y1 b hq hF hc
   rw [← hq]
   exact ih w vu vv u v y0 y1 (d - 1) hF (by omega) (by omega) (by omega) hc
  cases q4 : (srch l s k ⟨x0, Go.G880.qaR ⟨x0, x1⟩⟩ (d - 1) u v).1 with
  | false =>
   simp only [cond_false]
   go_enter Try.func32, Try.ntmps32
   go_wp2_with (first | ((with_reducible refine qcR (N := 4) rfl ?_); refine qcY ?hg (N := 4) ?hd (cs := #[.int .i64 x0, .int .i64 x1]) (t := 31) ?hr ?_; (case hd => rfl); (case hg => rfl); (case hr => first | (go_simp; done) | (go_simp; rfl)); intro gx hgx w1 hx hb1; have nx := Aside0.mk (show w.heap.size ≤ gx by rw [hgx]; exact Nat.le_refl _); replace hF := hF.move hb1; have hfr := Fr.of_below (g := g) (vu := vu) (vv := vv) hb1; have e0 := (qaD hx 0).trans rfl; have e1 := (qaD hx 1).trans rfl; clear hgx) | ((with_reducible refine qaV (f := 69) rfl ?_); refine qcL (some 31) rfl rfl Try.func69 (by kernel_rfl) rfl #[.pointer (some ⟨g, 0, none⟩), .agg #[.int .i64 x0, .int .i64 x1]] rfl (by (try simp only [List.map_toArray, List.map_cons, List.map_nil]); first | done | rfl | (simp only [List.length_drop, List.length_take]; rfl)) ?_; refine (qgB q1 (hF.move qb) hl hl2 hs2 hn).mono ?_; rintro e w2 ⟨rfl, hb2⟩; refine ⟨_, rfl, ?_⟩))
   replace hF := hF.move (qaC qb hb2)
   replace hfr := hfr.trans (Fr.of_below (qaC qb hb2))
   replace hx := qaM hx (qaC qb hb2)
   clear hb1 hb2
   refine qd3 (n := 7) (S := fun w' => w'.cell? ⟨g, 0, none⟩ = some (.slice pl.ha pl.hl pl.hc) ∧ w'.cell? ⟨g, 2, none⟩ = some vu ∧ w'.cell? ⟨g, 3, none⟩ = some vv ∧ w'.cell? ⟨gx, 0, none⟩ = some (.int .i64 x0) ∧ w'.cell? ⟨gx, 1, none⟩ = some (.int .i64 x1)) (ds := []) #[false, false, false, false, false, false, false] (by kernel_rfl) rfl rfl (⟨(qaD hF.blk 0).trans rfl, (qaD hF.blk 2).trans rfl, (qaD hF.blk 3).trans rfl, (qaD hx 0).trans rfl, (qaD hx 1).trans rfl⟩) (fun hH => ?_)
   replace hF := hF.drew
   replace hfr := hfr.trans (Fr.of_below (qbH (Below.refl _ _)))
   replace hx := qbQ hx
   generalize World.drew _ = wr at hF hx hfr hH ⊢
   refine pC 0 (some 33) ?_
   refine pC 1 (some 34) ?_
   refine pC 2 (some 35) ?_
   refine tC 3 (some 36) hH ?_
   refine tC 4 (some 37) hH ?_
   refine oC 5 (some 38) fun K hK => ?_
   refine gs Try.func17 #[.slice pl.ha pl.hl pl.hc, .agg #[.int .i64 x0, .int .i64 x1]] rfl ?_
   refine (uniq_b q2 hF hl hl2).mono ?_
   rintro e w3 ⟨rfl, hb3⟩
   refine ⟨_, rfl, ?_⟩
   refine hK.out _ _ ⟨cb hb3 hH.1, cb hb3 hH.2.1, cb hb3 hH.2.2.1, cb hb3 hH.2.2.2.1, cb hb3 hH.2.2.2.2⟩ (fun hH => ?_)
   clear hK K
   refine nA (some 38) ?_
   replace hF := hF.move hb3
   replace hfr := hfr.trans (Fr.of_below hb3)
   replace hx := qaM hx hb3
   clear hb3
   refine pC 6 (some 32) ?_
   refine qfD (by kernel_rfl) ?_
   have e0 := (qaD hx 0).trans rfl
   have e1 := (qaD hx 1).trans rfl
   go_wp2_with (first | ((with_reducible refine qaV (f := 70) rfl ?_); refine qfN (by rfl) ?_; refine qcL (some 54) rfl rfl Try.func70 (by kernel_rfl) rfl #[.agg #[.int .i64 x0, .int .i64 x1]] rfl (by (try simp only [List.map_toArray, List.map_cons, List.map_nil]); first | done | rfl | (simp only [List.length_drop, List.length_take]; rfl)) ?_; refine (widthI_ ⟨x0, x1⟩ _).mono ?_; rintro e w3 ⟨rfl, hb3⟩; refine ⟨_, rfl, ?_⟩; replace hF := hF.move (qaC qb hb3); replace hfr := hfr.trans (Fr.of_below (qaC qb hb3)); replace hx := qaM hx (qaC qb hb3); have e0 := (qaD hx 0).trans rfl; have e1 := (qaD hx 1).trans rfl; clear hb3) | ((with_reducible refine qaV (f := 44) rfl ?_); refine qcL (some 9) rfl rfl Try.func44 (by kernel_rfl) rfl #[.agg #[.int .i64 x0, .int .i64 x1]] rfl (by (try simp only [List.map_toArray, List.map_cons, List.map_nil]); first | done | rfl | (simp only [List.length_drop, List.length_take]; rfl)) ?_; refine (midI_ ⟨x0, x1⟩ _).mono ?_; rintro e w4 ⟨rfl, hb4⟩; refine ⟨_, rfl, ?_⟩; replace hF := hF.move (qaC qb hb4); replace hfr := hfr.trans (Fr.of_below (qaC qb hb4)); replace hx := qaM hx (qaC qb hb4); have e0 := (qaD hx 0).trans rfl; have e1 := (qaD hx 1).trans rfl; clear hb4) | ((with_reducible refine qaV (f := 32) rfl ?_); refine qcL (some 17) rfl rfl Try.func32 (by kernel_rfl) rfl #[.pointer (some ⟨g, 0, none⟩), .agg #[.int .i64 x0, .int .i64 (Go.G880.qaR ⟨x0, x1⟩)], .int .i64 (d - 1)] rfl (by (try simp only [List.map_toArray, List.map_cons, List.map_nil]); first | done | rfl | (simp only [List.length_drop, List.length_take]; rfl)) ?_; refine (ih1 _ _ _ _ _ _ _ _ q4 (hF.move qb) hc).mono ?_; rintro e w5 ⟨rfl, vu1, vv1, hF1, hf1⟩; refine ⟨_, rfl, ?_⟩; replace hx := hf1.old gl nx.out ou ov (qaM hx qb); have e1 := (qaD hx 1).trans rfl; replace hfr := (hfr.trans (Fr.of_below qb)).trans hf1; clear hf1))
   go_ret
   exact ⟨rfl, _, _, hF1.move qb, hfr.trans (Fr.of_below qb)⟩
  | true =>
   simp only [cond_true]
   have hc2 := srch_few l s k ⟨x0, Go.G880.qaR ⟨x0, x1⟩⟩ (d - 1) u v hc q4
   go_enter Try.func32, Try.ntmps32
   go_wp2_with (first | ((with_reducible refine qcR (N := 4) rfl ?_); refine qcY ?hg (N := 4) ?hd (cs := #[.int .i64 x0, .int .i64 x1]) (t := 31) ?hr ?_; (case hd => rfl); (case hg => rfl); (case hr => first | (go_simp; done) | (go_simp; rfl)); intro gx hgx w1 hx hb1; have nx := Aside0.mk (show w.heap.size ≤ gx by rw [hgx]; exact Nat.le_refl _); replace hF := hF.move hb1; have hfr := Fr.of_below (g := g) (vu := vu) (vv := vv) hb1; have e0 := (qaD hx 0).trans rfl; have e1 := (qaD hx 1).trans rfl; clear hgx) | ((with_reducible refine qaV (f := 69) rfl ?_); refine qcL (some 31) rfl rfl Try.func69 (by kernel_rfl) rfl #[.pointer (some ⟨g, 0, none⟩), .agg #[.int .i64 x0, .int .i64 x1]] rfl (by (try simp only [List.map_toArray, List.map_cons, List.map_nil]); first | done | rfl | (simp only [List.length_drop, List.length_take]; rfl)) ?_; refine (qgB q1 (hF.move qb) hl hl2 hs2 hn).mono ?_; rintro e w2 ⟨rfl, hb2⟩; refine ⟨_, rfl, ?_⟩))
   replace hF := hF.move (qaC qb hb2)
   replace hfr := hfr.trans (Fr.of_below (qaC qb hb2))
   replace hx := qaM hx (qaC qb hb2)
   clear hb1 hb2
   refine qd3 (n := 7) (S := fun w' => w'.cell? ⟨g, 0, none⟩ = some (.slice pl.ha pl.hl pl.hc) ∧ w'.cell? ⟨g, 2, none⟩ = some vu ∧ w'.cell? ⟨g, 3, none⟩ = some vv ∧ w'.cell? ⟨gx, 0, none⟩ = some (.int .i64 x0) ∧ w'.cell? ⟨gx, 1, none⟩ = some (.int .i64 x1)) (ds := []) #[false, false, false, false, false, false, false] (by kernel_rfl) rfl rfl (⟨(qaD hF.blk 0).trans rfl, (qaD hF.blk 2).trans rfl, (qaD hF.blk 3).trans rfl, (qaD hx 0).trans rfl, (qaD hx 1).trans rfl⟩) (fun hH => ?_)
   replace hF := hF.drew
   replace hfr := hfr.trans (Fr.of_below (qbH (Below.refl _ _)))
   replace hx := qbQ hx
   generalize World.drew _ = wr at hF hx hfr hH ⊢
   refine pC 0 (some 33) ?_
   refine pC 1 (some 34) ?_
   refine pC 2 (some 35) ?_
   refine tC 3 (some 36) hH ?_
   refine tC 4 (some 37) hH ?_
   refine oC 5 (some 38) fun K hK => ?_
   refine gs Try.func17 #[.slice pl.ha pl.hl pl.hc, .agg #[.int .i64 x0, .int .i64 x1]] rfl ?_
   refine (uniq_b q2 hF hl hl2).mono ?_
   rintro e w3 ⟨rfl, hb3⟩
   refine ⟨_, rfl, ?_⟩
   refine hK.out _ _ ⟨cb hb3 hH.1, cb hb3 hH.2.1, cb hb3 hH.2.2.1, cb hb3 hH.2.2.2.1, cb hb3 hH.2.2.2.2⟩ (fun hH => ?_)
   clear hK K
   refine nA (some 38) ?_
   replace hF := hF.move hb3
   replace hfr := hfr.trans (Fr.of_below hb3)
   replace hx := qaM hx hb3
   clear hb3
   refine pC 6 (some 32) ?_
   refine qfD (by kernel_rfl) ?_
   have e0 := (qaD hx 0).trans rfl
   have e1 := (qaD hx 1).trans rfl
   go_wp2_with (first | ((with_reducible refine qaV (f := 70) rfl ?_); refine qfN (by rfl) ?_; refine qcL (some 54) rfl rfl Try.func70 (by kernel_rfl) rfl #[.agg #[.int .i64 x0, .int .i64 x1]] rfl (by (try simp only [List.map_toArray, List.map_cons, List.map_nil]); first | done | rfl | (simp only [List.length_drop, List.length_take]; rfl)) ?_; refine (widthI_ ⟨x0, x1⟩ _).mono ?_; rintro e w3 ⟨rfl, hb3⟩; refine ⟨_, rfl, ?_⟩; replace hF := hF.move (qaC qb hb3); replace hfr := hfr.trans (Fr.of_below (qaC qb hb3)); replace hx := qaM hx (qaC qb hb3); have e0 := (qaD hx 0).trans rfl; have e1 := (qaD hx 1).trans rfl; clear hb3) | ((with_reducible refine qaV (f := 44) rfl ?_); refine qcL (some 9) rfl rfl Try.func44 (by kernel_rfl) rfl #[.agg #[.int .i64 x0, .int .i64 x1]] rfl (by (try simp only [List.map_toArray, List.map_cons, List.map_nil]); first | done | rfl | (simp only [List.length_drop, List.length_take]; rfl)) ?_; refine (midI_ ⟨x0, x1⟩ _).mono ?_; rintro e w4 ⟨rfl, hb4⟩; refine ⟨_, rfl, ?_⟩; replace hF := hF.move (qaC qb hb4); replace hfr := hfr.trans (Fr.of_below (qaC qb hb4)); replace hx := qaM hx (qaC qb hb4); have e0 := (qaD hx 0).trans rfl; have e1 := (qaD hx 1).trans rfl; clear hb4) | ((with_reducible refine qaV (f := 32) rfl ?_); refine qcL (some 17) rfl rfl Try.func32 (by kernel_rfl) rfl #[.pointer (some ⟨g, 0, none⟩), .agg #[.int .i64 x0, .int .i64 (Go.G880.qaR ⟨x0, x1⟩)], .int .i64 (d - 1)] rfl (by (try simp only [List.map_toArray, List.map_cons, List.map_nil]); first | done | rfl | (simp only [List.length_drop, List.length_take]; rfl)) ?_; refine (ih1 _ _ _ _ _ _ _ _ q4 (hF.move qb) hc).mono ?_; rintro e w5 ⟨rfl, vu1, vv1, hF1, hf1⟩; refine ⟨_, rfl, ?_⟩; replace hx := hf1.old gl nx.out ou ov (qaM hx qb); have e1 := (qaD hx 1).trans rfl; replace hfr := (hfr.trans (Fr.of_below qb)).trans hf1; clear hf1) | ((with_reducible refine qaV (f := 32) rfl ?_); refine qfN (by rfl) ?_; refine qcL (some 26) rfl rfl Try.func32 (by kernel_rfl) rfl #[.pointer (some ⟨g, 0, none⟩), .agg #[.int .i64 (Go.G880.qaR ⟨x0, x1⟩), .int .i64 x1], .int .i64 (d - 1)] rfl (by (try simp only [List.map_toArray, List.map_cons, List.map_nil]); first | done | rfl | (simp only [List.length_drop, List.length_take]; rfl)) ?_; refine (ih1 _ _ _ _ _ _ _ _ rfl (hF1.move qb) hc2).mono ?_; rintro e w6 ⟨rfl, vu2, vv2, hF2, hf2⟩; refine ⟨_, rfl, ?_⟩; replace hfr := (hfr.trans (Fr.of_below qb)).trans hf2; clear hf2))
   go_ret
   exact ⟨rfl, _, _, hF2.move qb, hfr.trans (Fr.of_below qb)⟩
end
end Go.Proofs.Ytogpbandlpjccaa.TX
