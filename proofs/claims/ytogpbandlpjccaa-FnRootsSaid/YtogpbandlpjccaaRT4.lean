/- The search for all roots: the machine walks it. -/
import Derived.Test.YtogpbandlpjccaaRT3
set_option linter.unusedVariables false
set_option linter.unusedSimpArgs false
namespace Go.Proofs.Ytogpbandlpjccaa.TX
open Go.RowKit Go.Proofs.YtogpbandlpjccaaW.PrintWords Go.Proofs.YtogpbandlpjccaaW.PrintLast Go.RX
theorem deriv_ {g : FuncId} {l rows : List Value} {n : Int} (h : GivesAR2 Try.prog g [(aL zIv 31).enc l] zIv 31 rows (.int .i64 n)) {w : World} {p : Pl} (hL : Rd p l w) :
  Calls Try.prog g #[.slice p.ha p.hl p.hc] w fun e w' => ∃ q : Pl, e = .returned (.tuple #[.slice q.ha q.hl q.hc, .int .i64 n]) ∧ Rd q rows.reverse w' ∧ (∀ k, q.adr = some k → w.heap.size ≤ k) ∧ (rows ≠ [] → q.ha.isSome = true) ∧ Below w.heap.size w w' := by
 obtain ⟨q, hr⟩ := Ready.l hL hL.low (Ready.nil w)
 have h2 := h (qaU [.l zIv 31 l]) (qeB 0 [.l zIv 31 l]) ⟨⟨0, 0, 0, 0, l, false, rfl, rfl, rfl⟩, trivial⟩
 have h3 := h2.2 q w trivial hr.lies hr.within fun y hy => by have := hr.inn 0 y hy; rwa [Nat.zero_add] at this
 rw [hr.vals 0 q fun j _ => by rw [Nat.zero_add]] at h3
 refine h3.mono ?_
 rintro e w' ⟨β', rfl, _, hp⟩
 have hlst := hp.lies.lst 1 rows true zIv 31 rfl
 have hlt : 1 < (qaU [.l zIv 31 l] ++ [(lstC rows true zIv, 31)]).length := by simp [qaU]
 refine ⟨β' 1, ?_, ?_, fun k hk => hp.own 1 (by simp [qaU]) hlt k hk, fun hne => ?_, hp.below⟩
 ·simp [rl, rl0, mvS, hdrV, qaU]
 ·refine ⟨hlst.len, hlst.row, hlst.szp, hlst.lc, hlst.szz, ?_, fun hh => by cases hh⟩
  rcases hlst.lay with ⟨h1, h2, _⟩ | h1
  ·exact .inl ⟨h1, h2, fun hh => by cases hh⟩
  ·exact .inr h1
 ·rcases hlst.lay with ⟨h1, h2, _⟩ | ⟨k, o, c, t', fz, h1, _⟩
  ·simp only [qbO, List.reverse_eq_nil_iff] at h2
   exact absurd h2 hne
  ·rw [h1]; rfl
theorem qhF {l : List Value} {x : Iv} {d c : Int} (hq : Go.G880.qbY l x d = c) (hl : l.length ≤ 1048576) {w : World} {p : Pl} (hL : Rd p l w) :
  Calls Try.prog 30 #[.slice p.ha p.hl p.hc, .agg #[.int .i64 x.lo, .int .i64 x.hi], .int .i64 d] w fun e w' => e = .returned (.int .i64 c) ∧ Below w.heap.size w w' :=
 hq ▸ qeO.calls (xs := [.slice p.ha p.hl p.hc, .agg #[.int .i64 x.lo, .int .i64 x.hi], .int .i64 d]) (qbY.gives l x d (decide_eq_true (by omega))) rfl (Ready.l hL hL.low (Ready.v rfl (Ready.v rfl (Ready.nil w))))
def qeX (l : List Value) : List Value := bif (Go.G880.qaB l).2 == 0 then (Go.G880.qaB l).1.reverse else []
def qg4 (l : List Value) (x : Iv) (d : Int) : List Iv × List Iv × Int :=
 bif Go.G880.qbY l x d != 0 then ([], [], Go.G880.qbY l x d) else
 bif (srch l (qeX l) 70 x d [] []).1 then ((srch l (qeX l) 70 x d [] []).2.1, (srch l (qeX l) 70 x d [] []).2.2, 0) else ([], [], 5)
theorem deriv30 {l : List Value} {c : Int} (hq : (Go.G880.qaB l).2 = c) (hl : l.length ≤ 1048576) {w : World} {p : Pl} (hL : Rd p l w) :
  Calls Try.prog 31 #[.slice p.ha p.hl p.hc] w fun e w' => ∃ q : Pl, e = .returned (.tuple #[.slice q.ha q.hl q.hc, .int .i64 c]) ∧ Rd q (Go.G880.qaB l).1.reverse w' ∧ (∀ k, q.adr = some k → w.heap.size ≤ k) ∧ ((Go.G880.qaB l).1 ≠ [] → q.ha.isSome = true) ∧ Below w.heap.size w w' :=
 hq ▸ deriv_ (qaB.gives l (decide_eq_true (by omega))) hL
theorem code_ok {l : List Value} {x : Iv} {d : Int} (h : Go.G880.qbY l x d = 0) : 0 ≤ d ∧ d ≤ 60 := by
 unfold Go.G880.qbY at h
 cases h1 : Go.G880.qaQ l <;> simp only [h1, Bool.not_false, Bool.not_true, cond_true, cond_false] at h
 ·cases h
 cases h2 : Go.G880.qaO x <;> simp only [h2, cond_true, cond_false] at h
 ·cases h3 : Go.G880.qbI d 0 60 <;> simp only [h3, Bool.not_false, Bool.not_true, cond_true, cond_false] at h
  ·cases h
  unfold Go.G880.qbI at h3
  cases h4 : decide (d ≥ 0) <;> simp only [h4, cond_true, cond_false] at h3
  ·cases h3
  exact ⟨of_decide_eq_true h4, of_decide_eq_true h3⟩
 ·cases h
def nilPl : Pl := ⟨none, none, 0, 0, 2⟩
theorem rd_nil (w : World) : Rd nilPl [] w := ⟨rfl, fun r hr => by simp at hr, Nat.zero_lt_two, Nat.le_refl _, rfl, .inl ⟨rfl, rfl, fun hh => by cases hh⟩, fun hh => by cases hh⟩
theorem search_b {b : Bool} {l s : List Value} {pl ps : Pl} {x0 x1 d : Int} (hq : (srch l s 70 ⟨x0, x1⟩ d [] []).1 = b) (hl2 : l.length ≤ 1048576) (hs2 : s.length ≤ 1048576) (hn : (ps.ha = none ∧ ps.hl = 0 ∧ ps.hc = 0 ∧ s = []) ∨ (ps.ha.isSome = true ∧ s.isEmpty = false))
  {w0 : World} (hl : Rd pl l w0) {g : Nat} (hg : w0.heap.size ≤ g) {w : World} {vu vv : Value} (hF : Fin 62 w0 w g pl ps s vu vv [] []) (hd : 0 ≤ d ∧ d ≤ 60) :
  Calls Try.prog 32 #[.pointer (some ⟨g, 0, none⟩), .agg #[.int .i64 x0, .int .i64 x1], .int .i64 d] w fun e w' => e = .returned (.bool b) ∧ ∃ vu' vv', Fin 62 w0 w' g pl ps s vu' vv' (srch l s 70 ⟨x0, x1⟩ d [] []).2.1 (srch l s 70 ⟨x0, x1⟩ d [] []).2.2 :=
 hq ▸ (search_ hl2 hs2 hn hl hg 70 w vu vv [] [] x0 x1 d hF hd.1 (by omega) (by omega) (by decide)).mono fun e w' ⟨h1, vu', vv', h2, _⟩ => ⟨h1, vu', vv', h2⟩
set_option maxHeartbeats 8000000 in
set_option maxRecDepth 100000 in
theorem rootsIn_ (w : World) (pl : Pl) (l : List Value) (x0 x1 d : Int) (hl : Rd pl l w) (hl2 : l.length ≤ 1048576) :
  Calls Try.prog 9 #[.slice pl.ha pl.hl pl.hc, .agg #[.int .i64 x0, .int .i64 x1], .int .i64 d] w fun e w' => ∃ v0 v1 : Value, e = .returned (.tuple #[v0, v1, .int .i64 (qg4 l ⟨x0, x1⟩ d).2.2]) ∧
   kIv.R 31 w' w.heap.size (fun _ => True) v0 (qg4 l ⟨x0, x1⟩ d).1 ∧ kIv.R 31 w' w.heap.size (fun _ => True) v1 (qg4 l ⟨x0, x1⟩ d).2.1 ∧ (∀ k, v0.ownBlock = some k → v1.ownBlock ≠ some k) ∧ Below w.heap.size w w' := by
 have hu31 := Try.underlying31
 have hu62 := Try.underlying62
 have hu26 := Try.underlying26
 unfold qg4
 by_cases hc : Go.G880.qbY l ⟨x0, x1⟩ d = 0
 ·have hd := code_ok hc
  have q1 := hc
  simp only [q1, bne_self_eq_false, cond_false]
  by_cases q0 : (Go.G880.qaB l).2 = 0
  ·have q2 := q0
   have hsl := Aside0.mk (show qeX l = (Go.G880.qaB l).1.reverse by unfold qeX; rw [q2]; rfl)
   have hl3 : (l.length : Int) ≤ 1048576 := by omega
   have hdo := Go.G880.der_ok hl3 (by rw [← Go.G880.Der_eq l hl3, q2]; rfl)
   rw [← Go.G880.Der_eq l hl3] at hdo
   have hs2 : (qeX l).length ≤ 1048576 := by rw [hsl.out]; have := hdo.2.2; omega
   have hne : (Go.G880.qaB l).1 ≠ [] := by
    intro h
    have := hdo.2.1
    rw [h] at this
    exact absurd this (by decide +kernel)
   cases q3 : (srch l (qeX l) 70 ⟨x0, x1⟩ d [] []).1 with
   | true =>
    simp only [cond_true]
    go_enter Try.func9, Try.ntmps9
    go_wp2_with (first | ((with_reducible refine qcR (N := 4) rfl ?_); refine qcY ?hg (N := 4) ?hd (cs := #[.int .i64 x0, .int .i64 x1]) (t := 31) ?hr ?_; (case hd => rfl); (case hg => rfl); (case hr => first | (go_simp; done) | (go_simp; rfl)); intro gx hgx w1 hx hb1; have nx := Aside0.mk (show w.heap.size ≤ gx by rw [hgx]; exact Nat.le_refl _); have e0 := (qaD hx 0).trans rfl; have e1 := (qaD hx 1).trans rfl; clear hgx) | ((with_reducible refine qaV (f := 30) rfl ?_); refine qcL (some 16) rfl rfl Try.func30 (by kernel_rfl) rfl #[.slice pl.ha pl.hl pl.hc, .agg #[.int .i64 x0, .int .i64 x1], .int .i64 d] rfl (by (try simp only [List.map_toArray, List.map_cons, List.map_nil]); first | done | rfl | (simp only [List.length_drop, List.length_take]; rfl)) ?_; refine (qhF q1 hl2 (hl.below (qaC hb1 qb))).mono ?_; rintro e w2 ⟨rfl, hb2⟩; refine ⟨_, rfl, ?_⟩) | ((with_reducible refine qcR (N := 22) rfl ?_); refine qcY ?hg (N := 22) ?hd (cs := #[.slice pl.ha pl.hl pl.hc, .slice none 0 0, .slice none 0 0, .slice none 0 0]) (t := 62) ?hr ?_; (case hd => rfl); (case hg => rfl); (case hr => first | (go_simp; done) | (go_simp; rfl)); intro g hgx w3 hbk hb3; have hge := Aside0.mk (show w.heap.size ≤ g by rw [hgx]; exact (qaC hb1 (qaC qb (qaC hb2 qb))).size); have ngx := Aside0.mk (show gx ≠ g by rw [hgx]; exact Nat.ne_of_lt (qeQ (qaM hx (qaC qb (qaC hb2 qb))))); clear hgx) | ((with_reducible refine qaV (f := 31) rfl ?_); refine qcL (some 25) rfl rfl Try.func31 (by kernel_rfl) rfl #[.slice pl.ha pl.hl pl.hc] rfl (by (try simp only [List.map_toArray, List.map_cons, List.map_nil]); first | done | rfl | (simp only [List.length_drop, List.length_take]; rfl)) ?_; have hb3g := qaM hbk qb; refine (deriv30 q2 hl2 (hl.below (qaC hb1 (qaC qb (qaC hb2 (qaC qb (qaC hb3 qb))))))).mono ?_; rintro e w4 ⟨ps, rfl, hs4, hsk, hsn, hb4⟩; refine ⟨_, rfl, ?_⟩; replace hbk := qaM hbk (qaC qb hb4); replace hx := qaM hx (qaC qb (qaC hb2 (qaC qb (qaC hb3 (qaC qb hb4))))); have hbb := qaC hb1 (qaC qb (qaC hb2 (qaC qb (qaC hb3 (qaC qb hb4))))); have hg3 := Aside0.mk (show ∀ k, ps.adr = some k → g < k from fun k hk => Nat.lt_of_lt_of_le (qeQ hb3g) (hsk k hk)); have e0 := (qaD hx 0).trans rfl; have e1 := (qaD hx 1).trans rfl; have hk1 : w4.cell? ⟨g, 1, none⟩ = some (.slice none 0 0) := (qaD hbk 1).trans rfl; have hf1 := qbZ hbk 1; have hna := ngx.out; have hnb := Ne.symm ngx.out) | ((with_reducible refine qaV (f := 32) rfl ?_); have hF : Fin 62 w (w4.setCell ⟨g, 1, none⟩ (.slice ps.ha ps.hl ps.hc)) g pl ps (qeX l) (.slice none 0 0) (.slice none 0 0) [] [] := ⟨qdO (cs := #[.slice pl.ha pl.hl pl.hc, .slice none 0 0, .slice none 0 0, .slice none 0 0]) hbk 1 _ rfl, Kd.R_nil _ _ _ _ _, Kd.R_nil _ _ _ _ _, (fun k hk => by simp [Value.ownBlock] at hk), qgH hbb hge.out, (hsl.out ▸ Lst.mono hs4 fun k hk => Below.heap_setCell w4 ⟨g, 1, none⟩ _ k (Nat.ne_of_lt (hg3.out k hk)).symm), fun k hk => ⟨(Nat.ne_of_lt (hg3.out k hk)).symm, by simp [Value.ownBlock], by simp [Value.ownBlock]⟩⟩; have hn : (ps.ha = none ∧ ps.hl = 0 ∧ ps.hc = 0 ∧ qeX l = []) ∨ (ps.ha.isSome = true ∧ (qeX l).isEmpty = false) := .inr ⟨hsn hne, by rw [hsl.out]; simp [hne]⟩; refine qcL (some 37) rfl rfl Try.func32 (by kernel_rfl) rfl #[.pointer (some ⟨g, 0, none⟩), .agg #[.int .i64 x0, .int .i64 x1], .int .i64 d] rfl (by (try simp only [List.map_toArray, List.map_cons, List.map_nil]); first | done | rfl | (simp only [List.length_drop, List.length_take]; rfl)) ?_; refine (search_b q3 hl2 hs2 hn hl hge.out (hF.move qb) hd).mono ?_; rintro e w6 ⟨rfl, vu, vv, hF6⟩; refine ⟨_, rfl, ?_⟩))
    replace hF := hF6
    obtain ⟨a1, n1, e1⟩ := Kd.R_slice hF.u
    obtain ⟨a2, n2, e2⟩ := Kd.R_slice hF.v
    subst e1
    subst e2
    refine qd3 (n := 11) (S := fun w' => w'.cell? ⟨g, 2, none⟩ = some (.slice a1 _ n1) ∧ w'.cell? ⟨g, 3, none⟩ = some (.slice a2 _ n2)) (ds := []) #[false, false, false, false, false, false, false, false, false, false, false] (by kernel_rfl) rfl rfl (⟨(qaD hF.blk 2).trans rfl, (qaD hF.blk 3).trans rfl⟩) (fun hH => ?_)
    replace hF := hF.drew
    generalize World.drew _ = wr at hF hH ⊢
    refine pC 0 (some 39) ?_
    refine pC 1 (some 40) ?_
    refine pC 2 (some 41) ?_
    refine tC 3 (some 42) hH ?_
    refine pC 4 (some 43) ?_
    refine pC 5 (some 44) ?_
    refine pC 6 (some 45) ?_
    refine tC 7 (some 46) hH ?_
    refine pC 8 (some 6) ?_
    refine pC 9 (some 7) ?_
    refine pC 10 (some 8) ?_
    refine qfD (by kernel_rfl) ?_
    go_wp2
    go_ret3
    exact ⟨_, _, rfl, hF.u, hF.v, hF.uv, qaC hF.below qb⟩
   | false =>
    simp only [cond_false]
    go_enter Try.func9, Try.ntmps9
    go_wp2_with (first | ((with_reducible refine qcR (N := 4) rfl ?_); refine qcY ?hg (N := 4) ?hd (cs := #[.int .i64 x0, .int .i64 x1]) (t := 31) ?hr ?_; (case hd => rfl); (case hg => rfl); (case hr => first | (go_simp; done) | (go_simp; rfl)); intro gx hgx w1 hx hb1; have nx := Aside0.mk (show w.heap.size ≤ gx by rw [hgx]; exact Nat.le_refl _); have e0 := (qaD hx 0).trans rfl; have e1 := (qaD hx 1).trans rfl; clear hgx) | ((with_reducible refine qaV (f := 30) rfl ?_); refine qcL (some 16) rfl rfl Try.func30 (by kernel_rfl) rfl #[.slice pl.ha pl.hl pl.hc, .agg #[.int .i64 x0, .int .i64 x1], .int .i64 d] rfl (by (try simp only [List.map_toArray, List.map_cons, List.map_nil]); first | done | rfl | (simp only [List.length_drop, List.length_take]; rfl)) ?_; refine (qhF q1 hl2 (hl.below (qaC hb1 qb))).mono ?_; rintro e w2 ⟨rfl, hb2⟩; refine ⟨_, rfl, ?_⟩) | ((with_reducible refine qcR (N := 22) rfl ?_); refine qcY ?hg (N := 22) ?hd (cs := #[.slice pl.ha pl.hl pl.hc, .slice none 0 0, .slice none 0 0, .slice none 0 0]) (t := 62) ?hr ?_; (case hd => rfl); (case hg => rfl); (case hr => first | (go_simp; done) | (go_simp; rfl)); intro g hgx w3 hbk hb3; have hge := Aside0.mk (show w.heap.size ≤ g by rw [hgx]; exact (qaC hb1 (qaC qb (qaC hb2 qb))).size); have ngx := Aside0.mk (show gx ≠ g by rw [hgx]; exact Nat.ne_of_lt (qeQ (qaM hx (qaC qb (qaC hb2 qb))))); clear hgx) | ((with_reducible refine qaV (f := 31) rfl ?_); refine qcL (some 25) rfl rfl Try.func31 (by kernel_rfl) rfl #[.slice pl.ha pl.hl pl.hc] rfl (by (try simp only [List.map_toArray, List.map_cons, List.map_nil]); first | done | rfl | (simp only [List.length_drop, List.length_take]; rfl)) ?_; have hb3g := qaM hbk qb; refine (deriv30 q2 hl2 (hl.below (qaC hb1 (qaC qb (qaC hb2 (qaC qb (qaC hb3 qb))))))).mono ?_; rintro e w4 ⟨ps, rfl, hs4, hsk, hsn, hb4⟩; refine ⟨_, rfl, ?_⟩; replace hbk := qaM hbk (qaC qb hb4); replace hx := qaM hx (qaC qb (qaC hb2 (qaC qb (qaC hb3 (qaC qb hb4))))); have hbb := qaC hb1 (qaC qb (qaC hb2 (qaC qb (qaC hb3 (qaC qb hb4))))); have hg3 := Aside0.mk (show ∀ k, ps.adr = some k → g < k from fun k hk => Nat.lt_of_lt_of_le (qeQ hb3g) (hsk k hk)); have e0 := (qaD hx 0).trans rfl; have e1 := (qaD hx 1).trans rfl; have hk1 : w4.cell? ⟨g, 1, none⟩ = some (.slice none 0 0) := (qaD hbk 1).trans rfl; have hf1 := qbZ hbk 1; have hna := ngx.out; have hnb := Ne.symm ngx.out) | ((with_reducible refine qaV (f := 32) rfl ?_); have hF : Fin 62 w (w4.setCell ⟨g, 1, none⟩ (.slice ps.ha ps.hl ps.hc)) g pl ps (qeX l) (.slice none 0 0) (.slice none 0 0) [] [] := ⟨qdO (cs := #[.slice pl.ha pl.hl pl.hc, .slice none 0 0, .slice none 0 0, .slice none 0 0]) hbk 1 _ rfl, Kd.R_nil _ _ _ _ _, Kd.R_nil _ _ _ _ _, (fun k hk => by simp [Value.ownBlock] at hk), qgH hbb hge.out, (hsl.out ▸ Lst.mono hs4 fun k hk => Below.heap_setCell w4 ⟨g, 1, none⟩ _ k (Nat.ne_of_lt (hg3.out k hk)).symm), fun k hk => ⟨(Nat.ne_of_lt (hg3.out k hk)).symm, by simp [Value.ownBlock], by simp [Value.ownBlock]⟩⟩; have hn : (ps.ha = none ∧ ps.hl = 0 ∧ ps.hc = 0 ∧ qeX l = []) ∨ (ps.ha.isSome = true ∧ (qeX l).isEmpty = false) := .inr ⟨hsn hne, by rw [hsl.out]; simp [hne]⟩; refine qcL (some 37) rfl rfl Try.func32 (by kernel_rfl) rfl #[.pointer (some ⟨g, 0, none⟩), .agg #[.int .i64 x0, .int .i64 x1], .int .i64 d] rfl (by (try simp only [List.map_toArray, List.map_cons, List.map_nil]); first | done | rfl | (simp only [List.length_drop, List.length_take]; rfl)) ?_; refine (search_b q3 hl2 hs2 hn hl hge.out (hF.move qb) hd).mono ?_; rintro e w6 ⟨rfl, vu, vv, hF6⟩; refine ⟨_, rfl, ?_⟩))
    go_ret3
    exact ⟨_, _, rfl, Kd.R_nil _ _ _ _ _, Kd.R_nil _ _ _ _ _, fun k hk => by simp [Value.ownBlock] at hk, qaC hF6.below qb⟩
  ·have hsl := Aside0.mk (show qeX l = [] by unfold qeX; rw [beq_eq_false_iff_ne.2 q0]; rfl)
   have hs2 : (qeX l).length ≤ 1048576 := by rw [hsl.out]; decide
   obtain ⟨c2, q2⟩ : ∃ c, (Go.G880.qaB l).2 = c := ⟨_, rfl⟩
   have hc2b : (c2 == 0) = false := beq_eq_false_iff_ne.2 (q2 ▸ q0)
   cases q3 : (srch l (qeX l) 70 ⟨x0, x1⟩ d [] []).1 with
   | true =>
    simp only [cond_true]
    go_enter Try.func9, Try.ntmps9
    go_wp2_with (first | ((with_reducible refine qcR (N := 4) rfl ?_); refine qcY ?hg (N := 4) ?hd (cs := #[.int .i64 x0, .int .i64 x1]) (t := 31) ?hr ?_; (case hd => rfl); (case hg => rfl); (case hr => first | (go_simp; done) | (go_simp; rfl)); intro gx hgx w1 hx hb1; have nx := Aside0.mk (show w.heap.size ≤ gx by rw [hgx]; exact Nat.le_refl _); have e0 := (qaD hx 0).trans rfl; have e1 := (qaD hx 1).trans rfl; clear hgx) | ((with_reducible refine qaV (f := 30) rfl ?_); refine qcL (some 16) rfl rfl Try.func30 (by kernel_rfl) rfl #[.slice pl.ha pl.hl pl.hc, .agg #[.int .i64 x0, .int .i64 x1], .int .i64 d] rfl (by (try simp only [List.map_toArray, List.map_cons, List.map_nil]); first | done | rfl | (simp only [List.length_drop, List.length_take]; rfl)) ?_; refine (qhF q1 hl2 (hl.below (qaC hb1 qb))).mono ?_; rintro e w2 ⟨rfl, hb2⟩; refine ⟨_, rfl, ?_⟩) | ((with_reducible refine qcR (N := 22) rfl ?_); refine qcY ?hg (N := 22) ?hd (cs := #[.slice pl.ha pl.hl pl.hc, .slice none 0 0, .slice none 0 0, .slice none 0 0]) (t := 62) ?hr ?_; (case hd => rfl); (case hg => rfl); (case hr => first | (go_simp; done) | (go_simp; rfl)); intro g hgx w3 hbk hb3; have hge := Aside0.mk (show w.heap.size ≤ g by rw [hgx]; exact (qaC hb1 (qaC qb (qaC hb2 qb))).size); have ngx := Aside0.mk (show gx ≠ g by rw [hgx]; exact Nat.ne_of_lt (qeQ (qaM hx (qaC qb (qaC hb2 qb))))); clear hgx) | ((with_reducible refine qaV (f := 31) rfl ?_); refine qcL (some 25) rfl rfl Try.func31 (by kernel_rfl) rfl #[.slice pl.ha pl.hl pl.hc] rfl (by (try simp only [List.map_toArray, List.map_cons, List.map_nil]); first | done | rfl | (simp only [List.length_drop, List.length_take]; rfl)) ?_; have hb3g := qaM hbk qb; refine (deriv30 q2 hl2 (hl.below (qaC hb1 (qaC qb (qaC hb2 (qaC qb (qaC hb3 qb))))))).mono ?_; rintro e w4 ⟨ps, rfl, hs4, hsk, hsn, hb4⟩; refine ⟨_, rfl, ?_⟩; replace hbk := qaM hbk (qaC qb hb4); replace hx := qaM hx (qaC qb (qaC hb2 (qaC qb (qaC hb3 (qaC qb hb4))))); have hbb := qaC hb1 (qaC qb (qaC hb2 (qaC qb (qaC hb3 (qaC qb hb4))))); have hg3 := Aside0.mk (show ∀ k, ps.adr = some k → g < k from fun k hk => Nat.lt_of_lt_of_le (qeQ hb3g) (hsk k hk)); have e0 := (qaD hx 0).trans rfl; have e1 := (qaD hx 1).trans rfl; have hk1 : w4.cell? ⟨g, 1, none⟩ = some (.slice none 0 0) := (qaD hbk 1).trans rfl; have hf1 := qbZ hbk 1) | ((with_reducible refine qaV (f := 32) rfl ?_); have hF : Fin 62 w w4 g pl nilPl (qeX l) (.slice none 0 0) (.slice none 0 0) [] [] := ⟨hbk, Kd.R_nil _ _ _ _ _, Kd.R_nil _ _ _ _ _, (fun k hk => by simp [Value.ownBlock] at hk), hbb, hsl.out ▸ rd_nil w4, fun k hk => by cases hk⟩; have hn : (nilPl.ha = none ∧ nilPl.hl = 0 ∧ nilPl.hc = 0 ∧ qeX l = []) ∨ (nilPl.ha.isSome = true ∧ (qeX l).isEmpty = false) := .inl ⟨rfl, rfl, rfl, hsl.out⟩; refine qcL (some 37) rfl rfl Try.func32 (by kernel_rfl) rfl #[.pointer (some ⟨g, 0, none⟩), .agg #[.int .i64 x0, .int .i64 x1], .int .i64 d] rfl (by (try simp only [List.map_toArray, List.map_cons, List.map_nil]); first | done | rfl | (simp only [List.length_drop, List.length_take]; rfl)) ?_; refine (search_b q3 hl2 hs2 hn hl hge.out (hF.move qb) hd).mono ?_; rintro e w6 ⟨rfl, vu, vv, hF6⟩; refine ⟨_, rfl, ?_⟩))
    replace hF := hF6
    obtain ⟨a1, n1, e1⟩ := Kd.R_slice hF.u
    obtain ⟨a2, n2, e2⟩ := Kd.R_slice hF.v
    subst e1
    subst e2
    refine qd3 (n := 11) (S := fun w' => w'.cell? ⟨g, 2, none⟩ = some (.slice a1 _ n1) ∧ w'.cell? ⟨g, 3, none⟩ = some (.slice a2 _ n2)) (ds := []) #[false, false, false, false, false, false, false, false, false, false, false] (by kernel_rfl) rfl rfl (⟨(qaD hF.blk 2).trans rfl, (qaD hF.blk 3).trans rfl⟩) (fun hH => ?_)
    replace hF := hF.drew
    generalize World.drew _ = wr at hF hH ⊢
    refine pC 0 (some 39) ?_
    refine pC 1 (some 40) ?_
    refine pC 2 (some 41) ?_
    refine tC 3 (some 42) hH ?_
    refine pC 4 (some 43) ?_
    refine pC 5 (some 44) ?_
    refine pC 6 (some 45) ?_
    refine tC 7 (some 46) hH ?_
    refine pC 8 (some 6) ?_
    refine pC 9 (some 7) ?_
    refine pC 10 (some 8) ?_
    refine qfD (by kernel_rfl) ?_
    go_wp2
    go_ret3
    exact ⟨_, _, rfl, hF.u, hF.v, hF.uv, qaC hF.below qb⟩
   | false =>
    simp only [cond_false]
    go_enter Try.func9, Try.ntmps9
    go_wp2_with (first | ((with_reducible refine qcR (N := 4) rfl ?_); refine qcY ?hg (N := 4) ?hd (cs := #[.int .i64 x0, .int .i64 x1]) (t := 31) ?hr ?_; (case hd => rfl); (case hg => rfl); (case hr => first | (go_simp; done) | (go_simp; rfl)); intro gx hgx w1 hx hb1; have nx := Aside0.mk (show w.heap.size ≤ gx by rw [hgx]; exact Nat.le_refl _); have e0 := (qaD hx 0).trans rfl; have e1 := (qaD hx 1).trans rfl; clear hgx) | ((with_reducible refine qaV (f := 30) rfl ?_); refine qcL (some 16) rfl rfl Try.func30 (by kernel_rfl) rfl #[.slice pl.ha pl.hl pl.hc, .agg #[.int .i64 x0, .int .i64 x1], .int .i64 d] rfl (by (try simp only [List.map_toArray, List.map_cons, List.map_nil]); first | done | rfl | (simp only [List.length_drop, List.length_take]; rfl)) ?_; refine (qhF q1 hl2 (hl.below (qaC hb1 qb))).mono ?_; rintro e w2 ⟨rfl, hb2⟩; refine ⟨_, rfl, ?_⟩) | ((with_reducible refine qcR (N := 22) rfl ?_); refine qcY ?hg (N := 22) ?hd (cs := #[.slice pl.ha pl.hl pl.hc, .slice none 0 0, .slice none 0 0, .slice none 0 0]) (t := 62) ?hr ?_; (case hd => rfl); (case hg => rfl); (case hr => first | (go_simp; done) | (go_simp; rfl)); intro g hgx w3 hbk hb3; have hge := Aside0.mk (show w.heap.size ≤ g by rw [hgx]; exact (qaC hb1 (qaC qb (qaC hb2 qb))).size); have ngx := Aside0.mk (show gx ≠ g by rw [hgx]; exact Nat.ne_of_lt (qeQ (qaM hx (qaC qb (qaC hb2 qb))))); clear hgx) | ((with_reducible refine qaV (f := 31) rfl ?_); refine qcL (some 25) rfl rfl Try.func31 (by kernel_rfl) rfl #[.slice pl.ha pl.hl pl.hc] rfl (by (try simp only [List.map_toArray, List.map_cons, List.map_nil]); first | done | rfl | (simp only [List.length_drop, List.length_take]; rfl)) ?_; have hb3g := qaM hbk qb; refine (deriv30 q2 hl2 (hl.below (qaC hb1 (qaC qb (qaC hb2 (qaC qb (qaC hb3 qb))))))).mono ?_; rintro e w4 ⟨ps, rfl, hs4, hsk, hsn, hb4⟩; refine ⟨_, rfl, ?_⟩; replace hbk := qaM hbk (qaC qb hb4); replace hx := qaM hx (qaC qb (qaC hb2 (qaC qb (qaC hb3 (qaC qb hb4))))); have hbb := qaC hb1 (qaC qb (qaC hb2 (qaC qb (qaC hb3 (qaC qb hb4))))); have hg3 := Aside0.mk (show ∀ k, ps.adr = some k → g < k from fun k hk => Nat.lt_of_lt_of_le (qeQ hb3g) (hsk k hk)); have e0 := (qaD hx 0).trans rfl; have e1 := (qaD hx 1).trans rfl; have hk1 : w4.cell? ⟨g, 1, none⟩ = some (.slice none 0 0) := (qaD hbk 1).trans rfl; have hf1 := qbZ hbk 1) | ((with_reducible refine qaV (f := 32) rfl ?_); have hF : Fin 62 w w4 g pl nilPl (qeX l) (.slice none 0 0) (.slice none 0 0) [] [] := ⟨hbk, Kd.R_nil _ _ _ _ _, Kd.R_nil _ _ _ _ _, (fun k hk => by simp [Value.ownBlock] at hk), hbb, hsl.out ▸ rd_nil w4, fun k hk => by cases hk⟩; have hn : (nilPl.ha = none ∧ nilPl.hl = 0 ∧ nilPl.hc = 0 ∧ qeX l = []) ∨ (nilPl.ha.isSome = true ∧ (qeX l).isEmpty = false) := .inl ⟨rfl, rfl, rfl, hsl.out⟩; refine qcL (some 37) rfl rfl Try.func32 (by kernel_rfl) rfl #[.pointer (some ⟨g, 0, none⟩), .agg #[.int .i64 x0, .int .i64 x1], .int .i64 d] rfl (by (try simp only [List.map_toArray, List.map_cons, List.map_nil]); first | done | rfl | (simp only [List.length_drop, List.length_take]; rfl)) ?_; refine (search_b q3 hl2 hs2 hn hl hge.out (hF.move qb) hd).mono ?_; rintro e w6 ⟨rfl, vu, vv, hF6⟩; refine ⟨_, rfl, ?_⟩))
    go_ret3
    exact ⟨_, _, rfl, Kd.R_nil _ _ _ _ _, Kd.R_nil _ _ _ _ _, fun k hk => by simp [Value.ownBlock] at hk, qaC hF6.below qb⟩
 ·have hcn : (Go.G880.qbY l ⟨x0, x1⟩ d != 0) = true := bne_iff_ne.2 hc
  generalize q1 : Go.G880.qbY l ⟨x0, x1⟩ d = c at hc hcn ⊢
  simp only [hcn, cond_true]
  go_enter Try.func9, Try.ntmps9
  go_wp2_with (first | ((with_reducible refine qcR (N := 4) rfl ?_); refine qcY ?hg (N := 4) ?hd (cs := #[.int .i64 x0, .int .i64 x1]) (t := 31) ?hr ?_; (case hd => rfl); (case hg => rfl); (case hr => first | (go_simp; done) | (go_simp; rfl)); intro gx hgx w1 hx hb1; have nx := Aside0.mk (show w.heap.size ≤ gx by rw [hgx]; exact Nat.le_refl _); have e0 := (qaD hx 0).trans rfl; have e1 := (qaD hx 1).trans rfl; clear hgx) | ((with_reducible refine qaV (f := 30) rfl ?_); refine qcL (some 16) rfl rfl Try.func30 (by kernel_rfl) rfl #[.slice pl.ha pl.hl pl.hc, .agg #[.int .i64 x0, .int .i64 x1], .int .i64 d] rfl (by (try simp only [List.map_toArray, List.map_cons, List.map_nil]); first | done | rfl | (simp only [List.length_drop, List.length_take]; rfl)) ?_; refine (qhF q1 hl2 (hl.below (qaC hb1 qb))).mono ?_; rintro e w2 ⟨rfl, hb2⟩; refine ⟨_, rfl, ?_⟩))
  go_ret3
  exact ⟨_, _, rfl, Kd.R_nil _ _ _ _ _, Kd.R_nil _ _ _ _ _, fun k hk => by simp [Value.ownBlock] at hk, qaC hb1 (qaC qb (qaC hb2 qb))⟩
end Go.Proofs.Ytogpbandlpjccaa.TX
