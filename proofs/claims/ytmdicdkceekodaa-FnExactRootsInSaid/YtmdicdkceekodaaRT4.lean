/- The search for all roots: the machine walks it. -/
import Derived.Test.YtmdicdkceekodaaRT3
set_option linter.unusedVariables false
set_option linter.unusedSimpArgs false
namespace Go.Proofs.Ytmdicdkceekodaa.TX
open Go.RowKit Go.Proofs.YtmdicdkceekodaaW.PrintWords Go.Proofs.YtmdicdkceekodaaW.PrintLast Go.RX
theorem deriv_ {g : FuncId} {l rows : List Value} {n : Int} (h : GivesAR2 Try.prog g [(aL zIv 35).enc l] zIv 35 rows (.int .i64 n)) {w : World} {p : Pl} (hL : Rd p l w) :
  Calls Try.prog g #[.slice p.ha p.hl p.hc] w fun e w' => ∃ q : Pl, e = .returned (.tuple #[.slice q.ha q.hl q.hc, .int .i64 n]) ∧ Rd q rows.reverse w' ∧ (∀ k, q.adr = some k → w.heap.size ≤ k) ∧ (rows ≠ [] → q.ha.isSome = true) ∧ Below w.heap.size w w' := by
 obtain ⟨q, hr⟩ := Ready.l hL hL.low (Ready.nil w)
 have h2 := h (argBlocks [.l zIv 35 l]) (argVals 0 [.l zIv 35 l]) ⟨⟨0, 0, 0, 0, l, false, rfl, rfl, rfl⟩, trivial⟩
 have h3 := h2.2 q w trivial hr.lies hr.within fun y hy => by have := hr.inn 0 y hy; rwa [Nat.zero_add] at this
 rw [hr.vals 0 q fun j _ => by rw [Nat.zero_add]] at h3
 refine h3.mono ?_
 rintro e w' ⟨β', rfl, _, hp⟩
 have hlst := hp.lies.lst 1 rows true zIv 35 rfl
 have hlt : 1 < (argBlocks [.l zIv 35 l] ++ [(lstC rows true zIv, 35)]).length := by simp [argBlocks]
 refine ⟨β' 1, ?_, ?_, fun k hk => hp.own 1 (by simp [argBlocks]) hlt k hk, fun hne => ?_, hp.below⟩
 ·simp [rl, rl0, mvS, hdrV, argBlocks]
 ·refine ⟨hlst.len, hlst.row, hlst.szp, hlst.lc, hlst.szz, ?_, fun hh => by cases hh⟩
  rcases hlst.lay with ⟨h1, h2, _⟩ | h1
  ·exact .inl ⟨h1, h2, fun hh => by cases hh⟩
  ·exact .inr h1
 ·rcases hlst.lay with ⟨h1, h2, _⟩ | ⟨k, o, c, t', fz, h1, _⟩
  ·simp only [inOrder, List.reverse_eq_nil_iff] at h2
   exact absurd h2 hne
  ·rw [h1]; rfl
theorem rootCode_ {l : List Value} {x : Iv} {d c : Int} (hq : Go.G880.impl_rootCode l x d = c) (hl : l.length ≤ 1048576) {w : World} {p : Pl} (hL : Rd p l w) :
  Calls Try.prog 29 #[.slice p.ha p.hl p.hc, .agg #[.int .i64 x.lo, .int .i64 x.hi], .int .i64 d] w fun e w' => e = .returned (.int .i64 c) ∧ Below w.heap.size w w' :=
 hq ▸ GivesA.calls (xs := [.slice p.ha p.hl p.hc, .agg #[.int .i64 x.lo, .int .i64 x.hi], .int .i64 d]) (impl_rootCode.gives l x d (decide_eq_true (by omega))) rfl (Ready.l hL hL.low (Ready.v rfl (Ready.v rfl (Ready.nil w))))
def slopes (l : List Value) : List Value := bif (Go.G880.impl_PolyDerivative l).2 == 0 then (Go.G880.impl_PolyDerivative l).1.reverse else []
def rootsIn (l : List Value) (x : Iv) (d : Int) : List Iv × List Iv × Int :=
 bif Go.G880.impl_rootCode l x d != 0 then ([], [], Go.G880.impl_rootCode l x d) else
 bif (srch l (slopes l) 70 x d [] []).1 then ((srch l (slopes l) 70 x d [] []).2.1, (srch l (slopes l) 70 x d [] []).2.2, 0) else ([], [], 5)
theorem deriv30 {l : List Value} {c : Int} (hq : (Go.G880.impl_PolyDerivative l).2 = c) (hl : l.length ≤ 1048576) {w : World} {p : Pl} (hL : Rd p l w) :
  Calls Try.prog 30 #[.slice p.ha p.hl p.hc] w fun e w' => ∃ q : Pl, e = .returned (.tuple #[.slice q.ha q.hl q.hc, .int .i64 c]) ∧ Rd q (Go.G880.impl_PolyDerivative l).1.reverse w' ∧ (∀ k, q.adr = some k → w.heap.size ≤ k) ∧ ((Go.G880.impl_PolyDerivative l).1 ≠ [] → q.ha.isSome = true) ∧ Below w.heap.size w w' :=
 hq ▸ deriv_ (impl_PolyDerivative.gives l (decide_eq_true (by omega))) hL
theorem code_ok {l : List Value} {x : Iv} {d : Int} (h : Go.G880.impl_rootCode l x d = 0) : 0 ≤ d ∧ d ≤ 60 := by
 unfold Go.G880.impl_rootCode at h
 cases h1 : Go.G880.impl_ValidPoly l <;> simp only [h1, Bool.not_false, Bool.not_true, cond_true, cond_false] at h
 ·cases h
 cases h2 : Go.G880.impl_IsWhole x <;> simp only [h2, cond_true, cond_false] at h
 ·cases h3 : Go.G880.impl_within d 0 60 <;> simp only [h3, Bool.not_false, Bool.not_true, cond_true, cond_false] at h
  ·cases h
  unfold Go.G880.impl_within at h3
  cases h4 : decide (d ≥ 0) <;> simp only [h4, cond_true, cond_false] at h3
  ·cases h3
  exact ⟨of_decide_eq_true h4, of_decide_eq_true h3⟩
 ·cases h
def nilPl : Pl := ⟨none, none, 0, 0, 2⟩
theorem rd_nil (w : World) : Rd nilPl [] w := ⟨rfl, fun r hr => by simp at hr, Nat.zero_lt_two, Nat.le_refl _, rfl, .inl ⟨rfl, rfl, fun hh => by cases hh⟩, fun hh => by cases hh⟩
theorem search_b {b : Bool} {l s : List Value} {pl ps : Pl} {x0 x1 d : Int} (hq : (srch l s 70 ⟨x0, x1⟩ d [] []).1 = b) (hl2 : l.length ≤ 1048576) (hs2 : s.length ≤ 1048576) (hn : (ps.ha = none ∧ ps.hl = 0 ∧ ps.hc = 0 ∧ s = []) ∨ (ps.ha.isSome = true ∧ s.isEmpty = false))
  {w0 : World} (hl : Rd pl l w0) {g : Nat} (hg : w0.heap.size ≤ g) {w : World} {vu vv : Value} (hF : Fin 52 w0 w g pl ps s vu vv [] []) (hd : 0 ≤ d ∧ d ≤ 60) :
  Calls Try.prog 31 #[.pointer (some ⟨g, 0, none⟩), .agg #[.int .i64 x0, .int .i64 x1], .int .i64 d] w fun e w' => e = .returned (.bool b) ∧ ∃ vu' vv', Fin 52 w0 w' g pl ps s vu' vv' (srch l s 70 ⟨x0, x1⟩ d [] []).2.1 (srch l s 70 ⟨x0, x1⟩ d [] []).2.2 :=
 hq ▸ (search_ hl2 hs2 hn hl hg 70 w vu vv [] [] x0 x1 d hF hd.1 (by omega) (by omega) (by decide)).mono fun e w' ⟨h1, vu', vv', h2, _⟩ => ⟨h1, vu', vv', h2⟩
set_option maxHeartbeats 8000000 in
set_option maxRecDepth 100000 in
theorem rootsIn_ (w : World) (pl : Pl) (l : List Value) (x0 x1 d : Int) (hl : Rd pl l w) (hl2 : l.length ≤ 1048576) :
  Calls Try.prog 14 #[.slice pl.ha pl.hl pl.hc, .agg #[.int .i64 x0, .int .i64 x1], .int .i64 d] w fun e w' => ∃ v0 v1 : Value, e = .returned (.tuple #[v0, v1, .int .i64 (rootsIn l ⟨x0, x1⟩ d).2.2]) ∧
   kIv.R 35 w' w.heap.size (fun _ => True) v0 (rootsIn l ⟨x0, x1⟩ d).1 ∧ kIv.R 35 w' w.heap.size (fun _ => True) v1 (rootsIn l ⟨x0, x1⟩ d).2.1 ∧ (∀ k, v0.ownBlock = some k → v1.ownBlock ≠ some k) ∧ Below w.heap.size w w' := by
 have hu35 := Try.underlying35
 have hu52 := Try.underlying52
 have hu24 := Try.underlying24
 unfold rootsIn
 by_cases hc : Go.G880.impl_rootCode l ⟨x0, x1⟩ d = 0
 ·have hd := code_ok hc
  have q1 := hc
  simp only [q1, bne_self_eq_false, cond_false]
  by_cases q0 : (Go.G880.impl_PolyDerivative l).2 = 0
  ·have q2 := q0
   have hsl := Aside0.mk (show slopes l = (Go.G880.impl_PolyDerivative l).1.reverse by unfold slopes; rw [q2]; rfl)
   have hl3 : (l.length : Int) ≤ 1048576 := by omega
   have hdo := Go.G880.der_ok hl3 (by rw [← Go.G880.Der_eq l hl3, q2]; rfl)
   rw [← Go.G880.Der_eq l hl3] at hdo
   have hs2 : (slopes l).length ≤ 1048576 := by rw [hsl.out]; have := hdo.2.2; omega
   have hne : (Go.G880.impl_PolyDerivative l).1 ≠ [] := by
    intro h
    have := hdo.2.1
    rw [h] at this
    exact absurd this (by decide +kernel)
   cases q3 : (srch l (slopes l) 70 ⟨x0, x1⟩ d [] []).1 with
   | true =>
    simp only [cond_true]
    go_enter Try.func14, Try.ntmps14
    go_wp2_with (first | ((with_reducible refine gate_dst (N := 4) rfl ?_); refine box_event ?hg (N := 4) ?hd (cs := #[.int .i64 x0, .int .i64 x1]) (t := 35) ?hr ?_; (case hd => rfl); (case hg => rfl); (case hr => first | (go_simp; done) | (go_simp; rfl)); intro gx hgx w1 hx hb1; have nx := Aside0.mk (show w.heap.size ≤ gx by rw [hgx]; exact Nat.le_refl _); have e0 := (blk_cell hx 0).trans rfl; have e1 := (blk_cell hx 1).trans rfl; clear hgx) | ((with_reducible refine gate_callee (f := 29) rfl ?_); refine goesL_ (some 16) rfl rfl Try.func29 (by kernel_rfl) rfl #[.slice pl.ha pl.hl pl.hc, .agg #[.int .i64 x0, .int .i64 x1], .int .i64 d] rfl (by (try simp only [List.map_toArray, List.map_cons, List.map_nil]); first | done | rfl | (simp only [List.length_drop, List.length_take]; rfl)) ?_; refine (rootCode_ q1 hl2 (hl.below (below_step hb1 qb))).mono ?_; rintro e w2 ⟨rfl, hb2⟩; refine ⟨_, rfl, ?_⟩) | ((with_reducible refine gate_dst (N := 22) rfl ?_); refine box_event ?hg (N := 22) ?hd (cs := #[.slice pl.ha pl.hl pl.hc, .slice none 0 0, .slice none 0 0, .slice none 0 0]) (t := 52) ?hr ?_; (case hd => rfl); (case hg => rfl); (case hr => first | (go_simp; done) | (go_simp; rfl)); intro g hgx w3 hbk hb3; have hge := Aside0.mk (show w.heap.size ≤ g by rw [hgx]; exact (below_step hb1 (below_step qb (below_step hb2 qb))).size); have ngx := Aside0.mk (show gx ≠ g by rw [hgx]; exact Nat.ne_of_lt (blk_lt (blk_below hx (below_step qb (below_step hb2 qb))))); clear hgx) | ((with_reducible refine gate_callee (f := 30) rfl ?_); refine goesL_ (some 25) rfl rfl Try.func30 (by kernel_rfl) rfl #[.slice pl.ha pl.hl pl.hc] rfl (by (try simp only [List.map_toArray, List.map_cons, List.map_nil]); first | done | rfl | (simp only [List.length_drop, List.length_take]; rfl)) ?_; have hb3g := blk_below hbk qb; refine (deriv30 q2 hl2 (hl.below (below_step hb1 (below_step qb (below_step hb2 (below_step qb (below_step hb3 qb))))))).mono ?_; rintro e w4 ⟨ps, rfl, hs4, hsk, hsn, hb4⟩; refine ⟨_, rfl, ?_⟩; replace hbk := blk_below hbk (below_step qb hb4); replace hx := blk_below hx (below_step qb (below_step hb2 (below_step qb (below_step hb3 (below_step qb hb4))))); have hbb := below_step hb1 (below_step qb (below_step hb2 (below_step qb (below_step hb3 (below_step qb hb4))))); have hg3 := Aside0.mk (show ∀ k, ps.adr = some k → g < k from fun k hk => Nat.lt_of_lt_of_le (blk_lt hb3g) (hsk k hk)); have e0 := (blk_cell hx 0).trans rfl; have e1 := (blk_cell hx 1).trans rfl; have hk1 : w4.cell? ⟨g, 1, none⟩ = some (.slice none 0 0) := (blk_cell hbk 1).trans rfl; have hf1 := blk_frozen hbk 1; have hna := ngx.out; have hnb := Ne.symm ngx.out) | ((with_reducible refine gate_callee (f := 31) rfl ?_); have hF : Fin 52 w (w4.setCell ⟨g, 1, none⟩ (.slice ps.ha ps.hl ps.hc)) g pl ps (slopes l) (.slice none 0 0) (.slice none 0 0) [] [] := ⟨blk_put (cs := #[.slice pl.ha pl.hl pl.hc, .slice none 0 0, .slice none 0 0, .slice none 0 0]) hbk 1 _ rfl, Kd.R_nil _ _ _ _ _, Kd.R_nil _ _ _ _ _, (fun k hk => by simp [Value.ownBlock] at hk), below_set hbb hge.out, (hsl.out ▸ Lst.mono hs4 fun k hk => Below.heap_setCell w4 ⟨g, 1, none⟩ _ k (Nat.ne_of_lt (hg3.out k hk)).symm), fun k hk => ⟨(Nat.ne_of_lt (hg3.out k hk)).symm, by simp [Value.ownBlock], by simp [Value.ownBlock]⟩⟩; have hn : (ps.ha = none ∧ ps.hl = 0 ∧ ps.hc = 0 ∧ slopes l = []) ∨ (ps.ha.isSome = true ∧ (slopes l).isEmpty = false) := .inr ⟨hsn hne, by rw [hsl.out]; simp [hne]⟩; refine goesL_ (some 37) rfl rfl Try.func31 (by kernel_rfl) rfl #[.pointer (some ⟨g, 0, none⟩), .agg #[.int .i64 x0, .int .i64 x1], .int .i64 d] rfl (by (try simp only [List.map_toArray, List.map_cons, List.map_nil]); first | done | rfl | (simp only [List.length_drop, List.length_take]; rfl)) ?_; refine (search_b q3 hl2 hs2 hn hl hge.out (hF.move qb) hd).mono ?_; rintro e w6 ⟨rfl, vu, vv, hF6⟩; refine ⟨_, rfl, ?_⟩))
    replace hF := hF6
    obtain ⟨a1, n1, e1⟩ := Kd.R_slice hF.u
    obtain ⟨a2, n2, e2⟩ := Kd.R_slice hF.v
    subst e1
    subst e2
    refine start_ (n := 11) (S := fun w' => w'.cell? ⟨g, 2, none⟩ = some (.slice a1 _ n1) ∧ w'.cell? ⟨g, 3, none⟩ = some (.slice a2 _ n2)) (ds := []) #[false, false, false, false, false, false, false, false, false, false, false] (by kernel_rfl) rfl rfl (⟨(blk_cell hF.blk 2).trans rfl, (blk_cell hF.blk 3).trans rfl⟩) (fun hH => ?_)
    replace hF := hF.drew
    generalize World.drew _ = wr at hF hH ⊢
    refine pure_ (i := 0) (N := (some 39)) (v := ?_) (a' := ?_) #[true, false, false, false, false, false, false, false, false, false, false] rfl rfl (by kernel_rfl) (fun _ _ _ h => h) (Or.inl ⟨by rfl, ?_⟩) ?_ ?_
    rotate_left
    ·intro w'
     go_simp
     with_reducible rfl
    rotate_left
    ·simp only [Act.put, List.setIfInBounds_toArray, List.set_cons_zero, List.set_cons_succ, i64_w, i32_w]
     rfl
    refine pure_ (i := 1) (N := (some 40)) (v := ?_) (a' := ?_) #[true, true, false, false, false, false, false, false, false, false, false] rfl rfl (by kernel_rfl) (fun _ _ _ h => h) (Or.inl ⟨by rfl, ?_⟩) ?_ ?_
    rotate_left
    ·intro w'
     go_simp
     with_reducible rfl
    rotate_left
    ·simp only [Act.put, List.setIfInBounds_toArray, List.set_cons_zero, List.set_cons_succ, i64_w, i32_w]
     rfl
    refine pure_ (i := 2) (N := (some 41)) (v := ?_) (a' := ?_) #[true, true, true, false, false, false, false, false, false, false, false] rfl rfl (by kernel_rfl) (fun _ _ _ h => h) (Or.inl ⟨by rfl, ?_⟩) ?_ ?_
    rotate_left
    ·intro w'
     go_simp
     with_reducible rfl
    rotate_left
    ·simp only [Act.put, List.setIfInBounds_toArray, List.set_cons_zero, List.set_cons_succ, i64_w, i32_w]
     rfl
    refine take_ (i := 3) (N := (some 42)) (v := ?_) (a' := ?_) #[true, true, true, true, false, false, false, false, false, false, false] rfl rfl (by kernel_rfl) (fun _ _ _ h => h) (Or.inl ⟨by rfl, ?_⟩) hH ?_ ?_
    rotate_left
    ·rintro w' ⟨s0, s1⟩
     go_simp
     with_reducible rfl
    rotate_left
    ·simp only [Act.put, List.setIfInBounds_toArray, List.set_cons_zero, List.set_cons_succ, i64_w, i32_w]
     rfl
    refine pure_ (i := 4) (N := (some 43)) (v := ?_) (a' := ?_) #[true, true, true, true, true, false, false, false, false, false, false] rfl rfl (by kernel_rfl) (fun _ _ _ h => h) (Or.inl ⟨by rfl, ?_⟩) ?_ ?_
    rotate_left
    ·intro w'
     go_simp
     with_reducible rfl
    rotate_left
    ·simp only [Act.put, List.setIfInBounds_toArray, List.set_cons_zero, List.set_cons_succ, i64_w, i32_w]
     rfl
    refine pure_ (i := 5) (N := (some 44)) (v := ?_) (a' := ?_) #[true, true, true, true, true, true, false, false, false, false, false] rfl rfl (by kernel_rfl) (fun _ _ _ h => h) (Or.inl ⟨by rfl, ?_⟩) ?_ ?_
    rotate_left
    ·intro w'
     go_simp
     with_reducible rfl
    rotate_left
    ·simp only [Act.put, List.setIfInBounds_toArray, List.set_cons_zero, List.set_cons_succ, i64_w, i32_w]
     rfl
    refine pure_ (i := 6) (N := (some 45)) (v := ?_) (a' := ?_) #[true, true, true, true, true, true, true, false, false, false, false] rfl rfl (by kernel_rfl) (fun _ _ _ h => h) (Or.inl ⟨by rfl, ?_⟩) ?_ ?_
    rotate_left
    ·intro w'
     go_simp
     with_reducible rfl
    rotate_left
    ·simp only [Act.put, List.setIfInBounds_toArray, List.set_cons_zero, List.set_cons_succ, i64_w, i32_w]
     rfl
    refine take_ (i := 7) (N := (some 46)) (v := ?_) (a' := ?_) #[true, true, true, true, true, true, true, true, false, false, false] rfl rfl (by kernel_rfl) (fun _ _ _ h => h) (Or.inl ⟨by rfl, ?_⟩) hH ?_ ?_
    rotate_left
    ·rintro w' ⟨s0, s1⟩
     go_simp
     with_reducible rfl
    rotate_left
    ·simp only [Act.put, List.setIfInBounds_toArray, List.set_cons_zero, List.set_cons_succ, i64_w, i32_w]
     rfl
    refine pure_ (i := 8) (N := (some 6)) (v := ?_) (a' := ?_) #[true, true, true, true, true, true, true, true, true, false, false] rfl rfl (by kernel_rfl) (fun _ _ _ h => h) (Or.inl ⟨by rfl, ?_⟩) ?_ ?_
    rotate_left
    ·intro w'
     go_simp
     with_reducible rfl
    rotate_left
    ·simp only [Act.put, List.setIfInBounds_toArray, List.set_cons_zero, List.set_cons_succ, i64_w, i32_w]
     rfl
    refine pure_ (i := 9) (N := (some 7)) (v := ?_) (a' := ?_) #[true, true, true, true, true, true, true, true, true, true, false] rfl rfl (by kernel_rfl) (fun _ _ _ h => h) (Or.inl ⟨by rfl, ?_⟩) ?_ ?_
    rotate_left
    ·intro w'
     go_simp
     with_reducible rfl
    rotate_left
    ·simp only [Act.put, List.setIfInBounds_toArray, List.set_cons_zero, List.set_cons_succ, i64_w, i32_w]
     rfl
    refine pure_ (i := 10) (N := (some 8)) (v := ?_) (a' := ?_) #[true, true, true, true, true, true, true, true, true, true, true] rfl rfl (by kernel_rfl) (fun _ _ _ h => h) (Or.inl ⟨by rfl, ?_⟩) ?_ ?_
    rotate_left
    ·intro w'
     go_simp
     with_reducible rfl
    rotate_left
    ·simp only [Act.put, List.setIfInBounds_toArray, List.set_cons_zero, List.set_cons_succ, i64_w, i32_w]
     rfl
    refine done_ (by kernel_rfl) ?_
    go_wp2
    go_ret3
    exact ⟨_, _, rfl, hF.u, hF.v, hF.uv, below_step hF.below qb⟩
   | false =>
    simp only [cond_false]
    go_enter Try.func14, Try.ntmps14
    go_wp2_with (first | ((with_reducible refine gate_dst (N := 4) rfl ?_); refine box_event ?hg (N := 4) ?hd (cs := #[.int .i64 x0, .int .i64 x1]) (t := 35) ?hr ?_; (case hd => rfl); (case hg => rfl); (case hr => first | (go_simp; done) | (go_simp; rfl)); intro gx hgx w1 hx hb1; have nx := Aside0.mk (show w.heap.size ≤ gx by rw [hgx]; exact Nat.le_refl _); have e0 := (blk_cell hx 0).trans rfl; have e1 := (blk_cell hx 1).trans rfl; clear hgx) | ((with_reducible refine gate_callee (f := 29) rfl ?_); refine goesL_ (some 16) rfl rfl Try.func29 (by kernel_rfl) rfl #[.slice pl.ha pl.hl pl.hc, .agg #[.int .i64 x0, .int .i64 x1], .int .i64 d] rfl (by (try simp only [List.map_toArray, List.map_cons, List.map_nil]); first | done | rfl | (simp only [List.length_drop, List.length_take]; rfl)) ?_; refine (rootCode_ q1 hl2 (hl.below (below_step hb1 qb))).mono ?_; rintro e w2 ⟨rfl, hb2⟩; refine ⟨_, rfl, ?_⟩) | ((with_reducible refine gate_dst (N := 22) rfl ?_); refine box_event ?hg (N := 22) ?hd (cs := #[.slice pl.ha pl.hl pl.hc, .slice none 0 0, .slice none 0 0, .slice none 0 0]) (t := 52) ?hr ?_; (case hd => rfl); (case hg => rfl); (case hr => first | (go_simp; done) | (go_simp; rfl)); intro g hgx w3 hbk hb3; have hge := Aside0.mk (show w.heap.size ≤ g by rw [hgx]; exact (below_step hb1 (below_step qb (below_step hb2 qb))).size); have ngx := Aside0.mk (show gx ≠ g by rw [hgx]; exact Nat.ne_of_lt (blk_lt (blk_below hx (below_step qb (below_step hb2 qb))))); clear hgx) | ((with_reducible refine gate_callee (f := 30) rfl ?_); refine goesL_ (some 25) rfl rfl Try.func30 (by kernel_rfl) rfl #[.slice pl.ha pl.hl pl.hc] rfl (by (try simp only [List.map_toArray, List.map_cons, List.map_nil]); first | done | rfl | (simp only [List.length_drop, List.length_take]; rfl)) ?_; have hb3g := blk_below hbk qb; refine (deriv30 q2 hl2 (hl.below (below_step hb1 (below_step qb (below_step hb2 (below_step qb (below_step hb3 qb))))))).mono ?_; rintro e w4 ⟨ps, rfl, hs4, hsk, hsn, hb4⟩; refine ⟨_, rfl, ?_⟩; replace hbk := blk_below hbk (below_step qb hb4); replace hx := blk_below hx (below_step qb (below_step hb2 (below_step qb (below_step hb3 (below_step qb hb4))))); have hbb := below_step hb1 (below_step qb (below_step hb2 (below_step qb (below_step hb3 (below_step qb hb4))))); have hg3 := Aside0.mk (show ∀ k, ps.adr = some k → g < k from fun k hk => Nat.lt_of_lt_of_le (blk_lt hb3g) (hsk k hk)); have e0 := (blk_cell hx 0).trans rfl; have e1 := (blk_cell hx 1).trans rfl; have hk1 : w4.cell? ⟨g, 1, none⟩ = some (.slice none 0 0) := (blk_cell hbk 1).trans rfl; have hf1 := blk_frozen hbk 1; have hna := ngx.out; have hnb := Ne.symm ngx.out) | ((with_reducible refine gate_callee (f := 31) rfl ?_); have hF : Fin 52 w (w4.setCell ⟨g, 1, none⟩ (.slice ps.ha ps.hl ps.hc)) g pl ps (slopes l) (.slice none 0 0) (.slice none 0 0) [] [] := ⟨blk_put (cs := #[.slice pl.ha pl.hl pl.hc, .slice none 0 0, .slice none 0 0, .slice none 0 0]) hbk 1 _ rfl, Kd.R_nil _ _ _ _ _, Kd.R_nil _ _ _ _ _, (fun k hk => by simp [Value.ownBlock] at hk), below_set hbb hge.out, (hsl.out ▸ Lst.mono hs4 fun k hk => Below.heap_setCell w4 ⟨g, 1, none⟩ _ k (Nat.ne_of_lt (hg3.out k hk)).symm), fun k hk => ⟨(Nat.ne_of_lt (hg3.out k hk)).symm, by simp [Value.ownBlock], by simp [Value.ownBlock]⟩⟩; have hn : (ps.ha = none ∧ ps.hl = 0 ∧ ps.hc = 0 ∧ slopes l = []) ∨ (ps.ha.isSome = true ∧ (slopes l).isEmpty = false) := .inr ⟨hsn hne, by rw [hsl.out]; simp [hne]⟩; refine goesL_ (some 37) rfl rfl Try.func31 (by kernel_rfl) rfl #[.pointer (some ⟨g, 0, none⟩), .agg #[.int .i64 x0, .int .i64 x1], .int .i64 d] rfl (by (try simp only [List.map_toArray, List.map_cons, List.map_nil]); first | done | rfl | (simp only [List.length_drop, List.length_take]; rfl)) ?_; refine (search_b q3 hl2 hs2 hn hl hge.out (hF.move qb) hd).mono ?_; rintro e w6 ⟨rfl, vu, vv, hF6⟩; refine ⟨_, rfl, ?_⟩))
    go_ret3
    exact ⟨_, _, rfl, Kd.R_nil _ _ _ _ _, Kd.R_nil _ _ _ _ _, fun k hk => by simp [Value.ownBlock] at hk, below_step hF6.below qb⟩
  ·have hsl := Aside0.mk (show slopes l = [] by unfold slopes; rw [beq_eq_false_iff_ne.2 q0]; rfl)
   have hs2 : (slopes l).length ≤ 1048576 := by rw [hsl.out]; decide
   obtain ⟨c2, q2⟩ : ∃ c, (Go.G880.impl_PolyDerivative l).2 = c := ⟨_, rfl⟩
   have hc2b : (c2 == 0) = false := beq_eq_false_iff_ne.2 (q2 ▸ q0)
   cases q3 : (srch l (slopes l) 70 ⟨x0, x1⟩ d [] []).1 with
   | true =>
    simp only [cond_true]
    go_enter Try.func14, Try.ntmps14
    go_wp2_with (first | ((with_reducible refine gate_dst (N := 4) rfl ?_); refine box_event ?hg (N := 4) ?hd (cs := #[.int .i64 x0, .int .i64 x1]) (t := 35) ?hr ?_; (case hd => rfl); (case hg => rfl); (case hr => first | (go_simp; done) | (go_simp; rfl)); intro gx hgx w1 hx hb1; have nx := Aside0.mk (show w.heap.size ≤ gx by rw [hgx]; exact Nat.le_refl _); have e0 := (blk_cell hx 0).trans rfl; have e1 := (blk_cell hx 1).trans rfl; clear hgx) | ((with_reducible refine gate_callee (f := 29) rfl ?_); refine goesL_ (some 16) rfl rfl Try.func29 (by kernel_rfl) rfl #[.slice pl.ha pl.hl pl.hc, .agg #[.int .i64 x0, .int .i64 x1], .int .i64 d] rfl (by (try simp only [List.map_toArray, List.map_cons, List.map_nil]); first | done | rfl | (simp only [List.length_drop, List.length_take]; rfl)) ?_; refine (rootCode_ q1 hl2 (hl.below (below_step hb1 qb))).mono ?_; rintro e w2 ⟨rfl, hb2⟩; refine ⟨_, rfl, ?_⟩) | ((with_reducible refine gate_dst (N := 22) rfl ?_); refine box_event ?hg (N := 22) ?hd (cs := #[.slice pl.ha pl.hl pl.hc, .slice none 0 0, .slice none 0 0, .slice none 0 0]) (t := 52) ?hr ?_; (case hd => rfl); (case hg => rfl); (case hr => first | (go_simp; done) | (go_simp; rfl)); intro g hgx w3 hbk hb3; have hge := Aside0.mk (show w.heap.size ≤ g by rw [hgx]; exact (below_step hb1 (below_step qb (below_step hb2 qb))).size); have ngx := Aside0.mk (show gx ≠ g by rw [hgx]; exact Nat.ne_of_lt (blk_lt (blk_below hx (below_step qb (below_step hb2 qb))))); clear hgx) | ((with_reducible refine gate_callee (f := 30) rfl ?_); refine goesL_ (some 25) rfl rfl Try.func30 (by kernel_rfl) rfl #[.slice pl.ha pl.hl pl.hc] rfl (by (try simp only [List.map_toArray, List.map_cons, List.map_nil]); first | done | rfl | (simp only [List.length_drop, List.length_take]; rfl)) ?_; have hb3g := blk_below hbk qb; refine (deriv30 q2 hl2 (hl.below (below_step hb1 (below_step qb (below_step hb2 (below_step qb (below_step hb3 qb))))))).mono ?_; rintro e w4 ⟨ps, rfl, hs4, hsk, hsn, hb4⟩; refine ⟨_, rfl, ?_⟩; replace hbk := blk_below hbk (below_step qb hb4); replace hx := blk_below hx (below_step qb (below_step hb2 (below_step qb (below_step hb3 (below_step qb hb4))))); have hbb := below_step hb1 (below_step qb (below_step hb2 (below_step qb (below_step hb3 (below_step qb hb4))))); have hg3 := Aside0.mk (show ∀ k, ps.adr = some k → g < k from fun k hk => Nat.lt_of_lt_of_le (blk_lt hb3g) (hsk k hk)); have e0 := (blk_cell hx 0).trans rfl; have e1 := (blk_cell hx 1).trans rfl; have hk1 : w4.cell? ⟨g, 1, none⟩ = some (.slice none 0 0) := (blk_cell hbk 1).trans rfl; have hf1 := blk_frozen hbk 1) | ((with_reducible refine gate_callee (f := 31) rfl ?_); have hF : Fin 52 w w4 g pl nilPl (slopes l) (.slice none 0 0) (.slice none 0 0) [] [] := ⟨hbk, Kd.R_nil _ _ _ _ _, Kd.R_nil _ _ _ _ _, (fun k hk => by simp [Value.ownBlock] at hk), hbb, hsl.out ▸ rd_nil w4, fun k hk => by cases hk⟩; have hn : (nilPl.ha = none ∧ nilPl.hl = 0 ∧ nilPl.hc = 0 ∧ slopes l = []) ∨ (nilPl.ha.isSome = true ∧ (slopes l).isEmpty = false) := .inl ⟨rfl, rfl, rfl, hsl.out⟩; refine goesL_ (some 37) rfl rfl Try.func31 (by kernel_rfl) rfl #[.pointer (some ⟨g, 0, none⟩), .agg #[.int .i64 x0, .int .i64 x1], .int .i64 d] rfl (by (try simp only [List.map_toArray, List.map_cons, List.map_nil]); first | done | rfl | (simp only [List.length_drop, List.length_take]; rfl)) ?_; refine (search_b q3 hl2 hs2 hn hl hge.out (hF.move qb) hd).mono ?_; rintro e w6 ⟨rfl, vu, vv, hF6⟩; refine ⟨_, rfl, ?_⟩))
    replace hF := hF6
    obtain ⟨a1, n1, e1⟩ := Kd.R_slice hF.u
    obtain ⟨a2, n2, e2⟩ := Kd.R_slice hF.v
    subst e1
    subst e2
    refine start_ (n := 11) (S := fun w' => w'.cell? ⟨g, 2, none⟩ = some (.slice a1 _ n1) ∧ w'.cell? ⟨g, 3, none⟩ = some (.slice a2 _ n2)) (ds := []) #[false, false, false, false, false, false, false, false, false, false, false] (by kernel_rfl) rfl rfl (⟨(blk_cell hF.blk 2).trans rfl, (blk_cell hF.blk 3).trans rfl⟩) (fun hH => ?_)
    replace hF := hF.drew
    generalize World.drew _ = wr at hF hH ⊢
    refine pure_ (i := 0) (N := (some 39)) (v := ?_) (a' := ?_) #[true, false, false, false, false, false, false, false, false, false, false] rfl rfl (by kernel_rfl) (fun _ _ _ h => h) (Or.inl ⟨by rfl, ?_⟩) ?_ ?_
    rotate_left
    ·intro w'
     go_simp
     with_reducible rfl
    rotate_left
    ·simp only [Act.put, List.setIfInBounds_toArray, List.set_cons_zero, List.set_cons_succ, i64_w, i32_w]
     rfl
    refine pure_ (i := 1) (N := (some 40)) (v := ?_) (a' := ?_) #[true, true, false, false, false, false, false, false, false, false, false] rfl rfl (by kernel_rfl) (fun _ _ _ h => h) (Or.inl ⟨by rfl, ?_⟩) ?_ ?_
    rotate_left
    ·intro w'
     go_simp
     with_reducible rfl
    rotate_left
    ·simp only [Act.put, List.setIfInBounds_toArray, List.set_cons_zero, List.set_cons_succ, i64_w, i32_w]
     rfl
    refine pure_ (i := 2) (N := (some 41)) (v := ?_) (a' := ?_) #[true, true, true, false, false, false, false, false, false, false, false] rfl rfl (by kernel_rfl) (fun _ _ _ h => h) (Or.inl ⟨by rfl, ?_⟩) ?_ ?_
    rotate_left
    ·intro w'
     go_simp
     with_reducible rfl
    rotate_left
    ·simp only [Act.put, List.setIfInBounds_toArray, List.set_cons_zero, List.set_cons_succ, i64_w, i32_w]
     rfl
    refine take_ (i := 3) (N := (some 42)) (v := ?_) (a' := ?_) #[true, true, true, true, false, false, false, false, false, false, false] rfl rfl (by kernel_rfl) (fun _ _ _ h => h) (Or.inl ⟨by rfl, ?_⟩) hH ?_ ?_
    rotate_left
    ·rintro w' ⟨s0, s1⟩
     go_simp
     with_reducible rfl
    rotate_left
    ·simp only [Act.put, List.setIfInBounds_toArray, List.set_cons_zero, List.set_cons_succ, i64_w, i32_w]
     rfl
    refine pure_ (i := 4) (N := (some 43)) (v := ?_) (a' := ?_) #[true, true, true, true, true, false, false, false, false, false, false] rfl rfl (by kernel_rfl) (fun _ _ _ h => h) (Or.inl ⟨by rfl, ?_⟩) ?_ ?_
    rotate_left
    ·intro w'
     go_simp
     with_reducible rfl
    rotate_left
    ·simp only [Act.put, List.setIfInBounds_toArray, List.set_cons_zero, List.set_cons_succ, i64_w, i32_w]
     rfl
    refine pure_ (i := 5) (N := (some 44)) (v := ?_) (a' := ?_) #[true, true, true, true, true, true, false, false, false, false, false] rfl rfl (by kernel_rfl) (fun _ _ _ h => h) (Or.inl ⟨by rfl, ?_⟩) ?_ ?_
    rotate_left
    ·intro w'
     go_simp
     with_reducible rfl
    rotate_left
    ·simp only [Act.put, List.setIfInBounds_toArray, List.set_cons_zero, List.set_cons_succ, i64_w, i32_w]
     rfl
    refine pure_ (i := 6) (N := (some 45)) (v := ?_) (a' := ?_) #[true, true, true, true, true, true, true, false, false, false, false] rfl rfl (by kernel_rfl) (fun _ _ _ h => h) (Or.inl ⟨by rfl, ?_⟩) ?_ ?_
    rotate_left
    ·intro w'
     go_simp
     with_reducible rfl
    rotate_left
    ·simp only [Act.put, List.setIfInBounds_toArray, List.set_cons_zero, List.set_cons_succ, i64_w, i32_w]
     rfl
    refine take_ (i := 7) (N := (some 46)) (v := ?_) (a' := ?_) #[true, true, true, true, true, true, true, true, false, false, false] rfl rfl (by kernel_rfl) (fun _ _ _ h => h) (Or.inl ⟨by rfl, ?_⟩) hH ?_ ?_
    rotate_left
    ·rintro w' ⟨s0, s1⟩
     go_simp
     with_reducible rfl
    rotate_left
    ·simp only [Act.put, List.setIfInBounds_toArray, List.set_cons_zero, List.set_cons_succ, i64_w, i32_w]
     rfl
    refine pure_ (i := 8) (N := (some 6)) (v := ?_) (a' := ?_) #[true, true, true, true, true, true, true, true, true, false, false] rfl rfl (by kernel_rfl) (fun _ _ _ h => h) (Or.inl ⟨by rfl, ?_⟩) ?_ ?_
    rotate_left
    ·intro w'
     go_simp
     with_reducible rfl
    rotate_left
    ·simp only [Act.put, List.setIfInBounds_toArray, List.set_cons_zero, List.set_cons_succ, i64_w, i32_w]
     rfl
    refine pure_ (i := 9) (N := (some 7)) (v := ?_) (a' := ?_) #[true, true, true, true, true, true, true, true, true, true, false] rfl rfl (by kernel_rfl) (fun _ _ _ h => h) (Or.inl ⟨by rfl, ?_⟩) ?_ ?_
    rotate_left
    ·intro w'
     go_simp
     with_reducible rfl
    rotate_left
    ·simp only [Act.put, List.setIfInBounds_toArray, List.set_cons_zero, List.set_cons_succ, i64_w, i32_w]
     rfl
    refine pure_ (i := 10) (N := (some 8)) (v := ?_) (a' := ?_) #[true, true, true, true, true, true, true, true, true, true, true] rfl rfl (by kernel_rfl) (fun _ _ _ h => h) (Or.inl ⟨by rfl, ?_⟩) ?_ ?_
    rotate_left
    ·intro w'
     go_simp
     with_reducible rfl
    rotate_left
    ·simp only [Act.put, List.setIfInBounds_toArray, List.set_cons_zero, List.set_cons_succ, i64_w, i32_w]
     rfl
    refine done_ (by kernel_rfl) ?_
    go_wp2
    go_ret3
    exact ⟨_, _, rfl, hF.u, hF.v, hF.uv, below_step hF.below qb⟩
   | false =>
    simp only [cond_false]
    go_enter Try.func14, Try.ntmps14
    go_wp2_with (first | ((with_reducible refine gate_dst (N := 4) rfl ?_); refine box_event ?hg (N := 4) ?hd (cs := #[.int .i64 x0, .int .i64 x1]) (t := 35) ?hr ?_; (case hd => rfl); (case hg => rfl); (case hr => first | (go_simp; done) | (go_simp; rfl)); intro gx hgx w1 hx hb1; have nx := Aside0.mk (show w.heap.size ≤ gx by rw [hgx]; exact Nat.le_refl _); have e0 := (blk_cell hx 0).trans rfl; have e1 := (blk_cell hx 1).trans rfl; clear hgx) | ((with_reducible refine gate_callee (f := 29) rfl ?_); refine goesL_ (some 16) rfl rfl Try.func29 (by kernel_rfl) rfl #[.slice pl.ha pl.hl pl.hc, .agg #[.int .i64 x0, .int .i64 x1], .int .i64 d] rfl (by (try simp only [List.map_toArray, List.map_cons, List.map_nil]); first | done | rfl | (simp only [List.length_drop, List.length_take]; rfl)) ?_; refine (rootCode_ q1 hl2 (hl.below (below_step hb1 qb))).mono ?_; rintro e w2 ⟨rfl, hb2⟩; refine ⟨_, rfl, ?_⟩) | ((with_reducible refine gate_dst (N := 22) rfl ?_); refine box_event ?hg (N := 22) ?hd (cs := #[.slice pl.ha pl.hl pl.hc, .slice none 0 0, .slice none 0 0, .slice none 0 0]) (t := 52) ?hr ?_; (case hd => rfl); (case hg => rfl); (case hr => first | (go_simp; done) | (go_simp; rfl)); intro g hgx w3 hbk hb3; have hge := Aside0.mk (show w.heap.size ≤ g by rw [hgx]; exact (below_step hb1 (below_step qb (below_step hb2 qb))).size); have ngx := Aside0.mk (show gx ≠ g by rw [hgx]; exact Nat.ne_of_lt (blk_lt (blk_below hx (below_step qb (below_step hb2 qb))))); clear hgx) | ((with_reducible refine gate_callee (f := 30) rfl ?_); refine goesL_ (some 25) rfl rfl Try.func30 (by kernel_rfl) rfl #[.slice pl.ha pl.hl pl.hc] rfl (by (try simp only [List.map_toArray, List.map_cons, List.map_nil]); first | done | rfl | (simp only [List.length_drop, List.length_take]; rfl)) ?_; have hb3g := blk_below hbk qb; refine (deriv30 q2 hl2 (hl.below (below_step hb1 (below_step qb (below_step hb2 (below_step qb (below_step hb3 qb))))))).mono ?_; rintro e w4 ⟨ps, rfl, hs4, hsk, hsn, hb4⟩; refine ⟨_, rfl, ?_⟩; replace hbk := blk_below hbk (below_step qb hb4); replace hx := blk_below hx (below_step qb (below_step hb2 (below_step qb (below_step hb3 (below_step qb hb4))))); have hbb := below_step hb1 (below_step qb (below_step hb2 (below_step qb (below_step hb3 (below_step qb hb4))))); have hg3 := Aside0.mk (show ∀ k, ps.adr = some k → g < k from fun k hk => Nat.lt_of_lt_of_le (blk_lt hb3g) (hsk k hk)); have e0 := (blk_cell hx 0).trans rfl; have e1 := (blk_cell hx 1).trans rfl; have hk1 : w4.cell? ⟨g, 1, none⟩ = some (.slice none 0 0) := (blk_cell hbk 1).trans rfl; have hf1 := blk_frozen hbk 1) | ((with_reducible refine gate_callee (f := 31) rfl ?_); have hF : Fin 52 w w4 g pl nilPl (slopes l) (.slice none 0 0) (.slice none 0 0) [] [] := ⟨hbk, Kd.R_nil _ _ _ _ _, Kd.R_nil _ _ _ _ _, (fun k hk => by simp [Value.ownBlock] at hk), hbb, hsl.out ▸ rd_nil w4, fun k hk => by cases hk⟩; have hn : (nilPl.ha = none ∧ nilPl.hl = 0 ∧ nilPl.hc = 0 ∧ slopes l = []) ∨ (nilPl.ha.isSome = true ∧ (slopes l).isEmpty = false) := .inl ⟨rfl, rfl, rfl, hsl.out⟩; refine goesL_ (some 37) rfl rfl Try.func31 (by kernel_rfl) rfl #[.pointer (some ⟨g, 0, none⟩), .agg #[.int .i64 x0, .int .i64 x1], .int .i64 d] rfl (by (try simp only [List.map_toArray, List.map_cons, List.map_nil]); first | done | rfl | (simp only [List.length_drop, List.length_take]; rfl)) ?_; refine (search_b q3 hl2 hs2 hn hl hge.out (hF.move qb) hd).mono ?_; rintro e w6 ⟨rfl, vu, vv, hF6⟩; refine ⟨_, rfl, ?_⟩))
    go_ret3
    exact ⟨_, _, rfl, Kd.R_nil _ _ _ _ _, Kd.R_nil _ _ _ _ _, fun k hk => by simp [Value.ownBlock] at hk, below_step hF6.below qb⟩
 ·have hcn : (Go.G880.impl_rootCode l ⟨x0, x1⟩ d != 0) = true := bne_iff_ne.2 hc
  generalize q1 : Go.G880.impl_rootCode l ⟨x0, x1⟩ d = c at hc hcn ⊢
  simp only [hcn, cond_true]
  go_enter Try.func14, Try.ntmps14
  go_wp2_with (first | ((with_reducible refine gate_dst (N := 4) rfl ?_); refine box_event ?hg (N := 4) ?hd (cs := #[.int .i64 x0, .int .i64 x1]) (t := 35) ?hr ?_; (case hd => rfl); (case hg => rfl); (case hr => first | (go_simp; done) | (go_simp; rfl)); intro gx hgx w1 hx hb1; have nx := Aside0.mk (show w.heap.size ≤ gx by rw [hgx]; exact Nat.le_refl _); have e0 := (blk_cell hx 0).trans rfl; have e1 := (blk_cell hx 1).trans rfl; clear hgx) | ((with_reducible refine gate_callee (f := 29) rfl ?_); refine goesL_ (some 16) rfl rfl Try.func29 (by kernel_rfl) rfl #[.slice pl.ha pl.hl pl.hc, .agg #[.int .i64 x0, .int .i64 x1], .int .i64 d] rfl (by (try simp only [List.map_toArray, List.map_cons, List.map_nil]); first | done | rfl | (simp only [List.length_drop, List.length_take]; rfl)) ?_; refine (rootCode_ q1 hl2 (hl.below (below_step hb1 qb))).mono ?_; rintro e w2 ⟨rfl, hb2⟩; refine ⟨_, rfl, ?_⟩))
  go_ret3
  exact ⟨_, _, rfl, Kd.R_nil _ _ _ _ _, Kd.R_nil _ _ _ _ _, fun k hk => by simp [Value.ownBlock] at hk, below_step hb1 (below_step qb (below_step hb2 qb))⟩
end Go.Proofs.Ytmdicdkceekodaa.TX
