/- What the callees of the search for roots do, said of a world. -/
import Derived.Test.YtogpbandlpjccaaGR
import Derived.Test.YtogpbandlpjccaaWW
set_option linter.unusedVariables false
set_option linter.unusedSimpArgs false
namespace Go.Proofs.Ytogpbandlpjccaa.TX
open Go Go.RowKit Go.RX
abbrev Rd (p : Pl) (l : List Value) (w : World) : Prop := Lst p zIv l false 31 w
theorem Rd.low {p : Pl} {l : List Value} {w : World} (h : Rd p l w) : ∀ k, p.adr = some k → k < w.heap.size := by
 intro k hk
 rcases h.lay with ⟨h1, _⟩ | ⟨k', o, c, t', fz, _, h2, h3, _⟩
 ·rw [h1] at hk; cases hk
 ·rw [h2] at hk
  cases hk
  exact (Array.getElem?_eq_some_iff.1 h3).1
theorem Rd.below {p : Pl} {l : List Value} {w w1 : World} (h : Rd p l w) (hb : Below w.heap.size w w1) : Rd p l w1 :=
 Lst.mono h fun k hk => hb.block k (h.low k hk)
theorem read2 {g : FuncId} {l : List Value} {x : Iv} {v : Value} (h : qeO Try.prog g [(aL zIv 31).enc l, (aV cIv).enc x] v) (hv : RX.plain v = true) {w : World} {p : Pl} (hL : Rd p l w) :
  Calls Try.prog g #[.slice p.ha p.hl p.hc, .agg #[.int .i64 x.lo, .int .i64 x.hi]] w fun e w' => e = .returned v ∧ Below w.heap.size w w' :=
 qeO.calls (xs := [.slice p.ha p.hl p.hc, .agg #[.int .i64 x.lo, .int .i64 x.hi]]) h hv (Ready.l hL hL.low (Ready.v rfl (Ready.nil w)))
theorem polyAt_ {l : List Value} {x : Iv} (hl : l.length ≤ 1048576) {w : World} {p : Pl} (hL : Rd p l w) :
  Calls Try.prog 11 #[.slice p.ha p.hl p.hc, .agg #[.int .i64 x.lo, .int .i64 x.hi]] w fun e w' => e = .returned (.agg #[.int .i64 (Go.G880.qaH l x).lo, .int .i64 (Go.G880.qaH l x).hi]) ∧ Below w.heap.size w w' :=
 read2 (qaH.gives l x (decide_eq_true (by omega))) rfl hL
theorem signI_ (a : Iv) (w : World) : Calls Try.prog 51 #[.agg #[.int .i64 a.lo, .int .i64 a.hi]] w fun e w' => e = .returned (.int .i64 (Go.G880.qcX a)) ∧ Below w.heap.size w w' := (qcX.gives a).calls rfl rfl w
theorem midI_ (a : Iv) (w : World) : Calls Try.prog 44 #[.agg #[.int .i64 a.lo, .int .i64 a.hi]] w fun e w' => e = .returned (.int .i64 (Go.G880.qaR a)) ∧ Below w.heap.size w w' := (qaR.gives a).calls rfl rfl w
theorem widthI_ (a : Iv) (w : World) : Calls Try.prog 70 #[.agg #[.int .i64 a.lo, .int .i64 a.hi]] w fun e w' => e = .returned (.int .i64 (Go.G880.qdF a)) ∧ Below w.heap.size w w' := (qdF.gives a).calls rfl rfl w
theorem at_ (n : Int) (w : World) : Calls Try.prog 46 #[.int .i64 n] w fun e w' => e = .returned (.agg #[.int .i64 (Go.G880.qbW n).lo, .int .i64 (Go.G880.qbW n).hi]) ∧ Below w.heap.size w w' := (qbW.gives n).calls rfl rfl w
theorem subI_ (a b : Iv) (w : World) : Calls Try.prog 48 #[.agg #[.int .i64 a.lo, .int .i64 a.hi], .agg #[.int .i64 b.lo, .int .i64 b.hi]] w fun e w' => e = .returned (.agg #[.int .i64 (Go.G880.qcG a b).lo, .int .i64 (Go.G880.qcG a b).hi]) ∧ Below w.heap.size w w' := (qcG.gives a b).calls rfl rfl w
theorem mulI_ (a b : Iv) (w : World) : Calls Try.prog 39 #[.agg #[.int .i64 a.lo, .int .i64 a.hi], .agg #[.int .i64 b.lo, .int .i64 b.hi]] w fun e w' => e = .returned (.agg #[.int .i64 (Go.G880.qbJ a b).lo, .int .i64 (Go.G880.qbJ a b).hi]) ∧ Below w.heap.size w w' := (qbJ.gives a b).calls rfl rfl w
theorem addI_ (a b : Iv) (w : World) : Calls Try.prog 38 #[.agg #[.int .i64 a.lo, .int .i64 a.hi], .agg #[.int .i64 b.lo, .int .i64 b.hi]] w fun e w' => e = .returned (.agg #[.int .i64 (Go.G880.qbV a b).lo, .int .i64 (Go.G880.qbV a b).hi]) ∧ Below w.heap.size w w' := (qbV.gives a b).calls rfl rfl w
theorem uniqueRoot_ {l : List Value} {x : Iv} (hl : l.length ≤ 1048576) {w : World} {p : Pl} (hL : Rd p l w) :
  Calls Try.prog 17 #[.slice p.ha p.hl p.hc, .agg #[.int .i64 x.lo, .int .i64 x.hi]] w fun e w' => e = .returned (.bool (Go.G880.qaT l x)) ∧ Below w.heap.size w w' :=
 read2 (qaT.gives l x (decide_eq_true (by omega))) rfl hL
def qe4 (l s : List Value) (x : Iv) : Bool :=
 bif Go.G880.qcX (Go.G880.qaH l x) != 0 then true else bif s.isEmpty then false else
  Go.G880.qcX (Go.G880.qbV (Go.G880.qaH l (Go.G880.qbW (Go.G880.qaR x))) (Go.G880.qbJ (Go.G880.qaH s x) (Go.G880.qcG x (Go.G880.qbW (Go.G880.qaR x))))) != 0
end Go.Proofs.Ytogpbandlpjccaa.TX
/- Whether an interval certainly contains no root: the machine walks it. -/
set_option linter.unusedVariables false
set_option linter.unusedSimpArgs false
namespace Go.Proofs.Ytogpbandlpjccaa.TX
open Go.RowKit Go.Proofs.YtogpbandlpjccaaW.PrintWords Go.Proofs.YtogpbandlpjccaaW.PrintLast Go.RX
theorem cb {w w1 : World} {a : Addr} {v : Value} (hb : Below w.heap.size w w1) (h : w.cell? a = some v) : w1.cell? a = some v := (hb.cell (World.block_lt_of_cell? w _ h)).trans h
set_option maxHeartbeats 8000000 in
set_option maxRecDepth 100000 in
theorem rootless_ (w : World) (g : Nat) (pl ps : Pl) (l s : List Value) (x0 x1 : Int) (vu vv : Value)
  (hb : w.heap[g]? = some (.cells #[.slice pl.ha pl.hl pl.hc, .slice ps.ha ps.hl ps.hc, vu, vv] 62 (0, 0)))
  (hl : Rd pl l w) (hs : Rd ps s w) (hl2 : l.length ≤ 1048576) (hs2 : s.length ≤ 1048576) (hn : (ps.ha = none ∧ ps.hl = 0 ∧ ps.hc = 0 ∧ s = []) ∨ (ps.ha.isSome = true ∧ s.isEmpty = false)) :
  Calls Try.prog 69 #[.pointer (some ⟨g, 0, none⟩), .agg #[.int .i64 x0, .int .i64 x1]] w fun e w' => e = .returned (.bool (qe4 l s ⟨x0, x1⟩)) ∧ Below w.heap.size w w' := by
 have hu31 := Try.underlying31
 have hu62 := Try.underlying62
 have hc0 : w.cell? ⟨g, 0, none⟩ = some (.slice pl.ha pl.hl pl.hc) := (qaD hb 0).trans rfl
 have hc1 : w.cell? ⟨g, 1, none⟩ = some (.slice ps.ha ps.hl ps.hc) := (qaD hb 1).trans rfl
 go_enter Try.func69, Try.ntmps69
 go_wp2_with (first | ((with_reducible refine qcR (N := 3) rfl ?_); refine qcY ?hg (N := 3) ?hd (cs := #[.int .i64 x0, .int .i64 x1]) (t := 31) ?hr ?_; (case hd => rfl); (case hg => rfl); (case hr => first | (go_simp; done) | (go_simp; rfl)); intro gx hgx w1 hx hb1; skip; clear hgx))
 refine qd3 (n := 8) (S := fun w' => w'.cell? ⟨g, 0, none⟩ = some (.slice pl.ha pl.hl pl.hc) ∧ w'.cell? ⟨g, 1, none⟩ = some (.slice ps.ha ps.hl ps.hc) ∧ w'.cell? ⟨gx, 0, none⟩ = some (.int .i64 x0) ∧ w'.cell? ⟨gx, 1, none⟩ = some (.int .i64 x1)) (ds := []) #[false, false, false, false, false, false, false, false] (by kernel_rfl) rfl rfl (⟨cb (qbH hb1) hc0, cb (qbH hb1) hc1, (qaD hx 0).trans rfl, (qaD hx 1).trans rfl⟩) (fun hH => ?_)
 replace hb1 := qbH hb1
 replace hx := qbQ hx
 generalize w1.drew = wr at hb1 hx hH ⊢
 refine pC 0 (some 6) ?_
 refine pC 1 (some 7) ?_
 refine pC 2 (some 8) ?_
 refine tC 3 (some 9) hH ?_
 refine tC 4 (some 10) hH ?_
 refine oC 5 (some 11) fun K hK => ?_
 refine gs Try.func11 #[.slice pl.ha pl.hl pl.hc, .agg #[.int .i64 x0, .int .i64 x1]] rfl ?_
 refine (polyAt_ (x := ⟨x0, x1⟩) hl2 (hl.below hb1)).mono ?_
 rintro e w2 ⟨rfl, hb2⟩
 refine ⟨_, rfl, ?_⟩
 refine hK.out _ _ ⟨cb hb2 hH.1, cb hb2 hH.2.1, cb hb2 hH.2.2.1, cb hb2 hH.2.2.2⟩ (fun hH => ?_)
 clear hK K
 refine nA (some 11) ?_
 refine oC 6 (some 12) fun K hK => ?_
 refine gs Try.func51 #[.agg #[.int .i64 (Go.G880.qaH l ⟨x0, x1⟩).lo, .int .i64 (Go.G880.qaH l ⟨x0, x1⟩).hi]] rfl ?_
 refine (signI_ (Go.G880.qaH l ⟨x0, x1⟩) _).mono ?_
 rintro e w3 ⟨rfl, hb3⟩
 refine ⟨_, rfl, ?_⟩
 refine hK.out _ _ ⟨cb hb3 hH.1, cb hb3 hH.2.1, cb hb3 hH.2.2.1, cb hb3 hH.2.2.2⟩ (fun hH => ?_)
 clear hK K
 refine nA (some 12) ?_
 refine pC 7 (some 13) ?_
 refine qfD (by kernel_rfl) ?_
 replace hx := qaM (qaM hx hb2) hb3
 replace hb3 := qaC hb1 (qaC hb2 hb3)
 clear hb1 hb2
 obtain ⟨c0, c1, d0, d1⟩ := hH
 cases hq : (Go.G880.qcX (Go.G880.qaH l ⟨x0, x1⟩) != 0) with
 | true =>
  go_wp2
  go_ret
  exact ⟨by simp only [qe4, hq, cond_true]; rfl, by repeat (first | exact hb3 | apply qbH | apply qeK)⟩
 | false =>
  rcases hn with ⟨h1, h2, h3, rfl⟩ | ⟨h1, h2⟩
  ·rw [h1, h2, h3] at c1
   have he : ∀ W : World, (binOp .eql 26 (.slice none 0 0) (.slice none 0 0)).run Try.prog W = .ok (.bool true) W := fun W => by kernel_rfl
   go_wp2
   go_ret
   exact ⟨by simp only [qe4, hq, cond_false, List.isEmpty_nil, cond_true]; rfl, by repeat (first | exact hb3 | apply qbH | apply qeK)⟩
  ·obtain ⟨A, hA⟩ := Option.isSome_iff_exists.1 h1
   have he : ∀ W : World, (binOp .eql 26 (.slice (some A) ps.hl ps.hc) (.slice none 0 0)).run Try.prog W = .ok (.bool false) W := fun W => by kernel_rfl
   rw [hA] at c1
   go_wp2_with (first | ((with_reducible refine qaV (f := 44) rfl ?_); refine qcL (some 20) rfl rfl Try.func44 (by kernel_rfl) rfl #[.agg #[.int .i64 x0, .int .i64 x1]] rfl (by (try simp only [List.map_toArray, List.map_cons, List.map_nil]); first | done | rfl | (simp only [List.length_drop, List.length_take]; rfl)) ?_; refine (midI_ ⟨x0, x1⟩ _).mono ?_; rintro e w4 ⟨rfl, hb4⟩; refine ⟨_, rfl, ?_⟩) | ((with_reducible refine qaV (f := 46) rfl ?_); refine qcL (some 21) rfl rfl Try.func46 (by kernel_rfl) rfl #[.int .i64 (Go.G880.qaR ⟨x0, x1⟩)] rfl (by (try simp only [List.map_toArray, List.map_cons, List.map_nil]); first | done | rfl | (simp only [List.length_drop, List.length_take]; rfl)) ?_; refine (at_ _ _).mono ?_; rintro e w5 ⟨rfl, hb5⟩; refine ⟨_, rfl, ?_⟩) | ((with_reducible refine qcR (N := 5) rfl ?_); refine qcY ?hg (N := 5) ?hd (cs := #[.int .i64 0, .int .i64 0]) (t := 31) ?hr ?_; (case hd => rfl); (case hg => rfl); (case hr => first | (go_simp; done) | (go_simp; rfl)); intro gm hgx w6 hm hb6; have m0 := (qaD hm 0).trans rfl; have m1 := (qaD hm 1).trans rfl; have f0 := qbZ hm 0; have f1 := qbZ hm 1; have xm := Aside0.mk (show gx ≠ gm by rw [hgx]; exact Nat.ne_of_lt (World.block_lt_of_cell? _ _ (cb hb5 (cb hb4 d0)))); have wm := Aside0.mk (show w.heap.size ≤ gm by rw [hgx]; exact (qaC hb3 (qaC hb4 hb5)).size); clear hgx))
   have hb7 : Below w.heap.size w ((w6.setCell ⟨gm, 0, none⟩ (.int .i64 (Go.G880.qbW (Go.G880.qaR ⟨x0, x1⟩)).lo)).setCell ⟨gm, 1, none⟩ (.int .i64 (Go.G880.qbW (Go.G880.qaR ⟨x0, x1⟩)).hi)) := qgH (qgH (qaC hb3 (qaC hb4 (qaC hb5 hb6))) wm.out) wm.out
   have hx7 : (((w6.setCell ⟨gm, 0, none⟩ (.int .i64 (Go.G880.qbW (Go.G880.qaR ⟨x0, x1⟩)).lo)).setCell ⟨gm, 1, none⟩ (.int .i64 (Go.G880.qbW (Go.G880.qaR ⟨x0, x1⟩)).hi))).heap[gx]? = some (.cells #[.int .i64 x0, .int .i64 x1] 31 (0, 0)) := blk_far (blk_far (qaM (qaM (qaM hx hb4) hb5) hb6) xm.out _) xm.out _
   have hm7 : (((w6.setCell ⟨gm, 0, none⟩ (.int .i64 (Go.G880.qbW (Go.G880.qaR ⟨x0, x1⟩)).lo)).setCell ⟨gm, 1, none⟩ (.int .i64 (Go.G880.qbW (Go.G880.qaR ⟨x0, x1⟩)).hi))).heap[gm]? = some (.cells #[.int .i64 (Go.G880.qbW (Go.G880.qaR ⟨x0, x1⟩)).lo, .int .i64 (Go.G880.qbW (Go.G880.qaR ⟨x0, x1⟩)).hi] 31 (0, 0)) := qdO (cs := #[.int .i64 (Go.G880.qbW (Go.G880.qaR ⟨x0, x1⟩)).lo, .int .i64 0]) (qdO (cs := #[.int .i64 0, .int .i64 0]) hm 0 _ rfl) 1 _ rfl
   generalize ((w6.setCell ⟨gm, 0, none⟩ (.int .i64 (Go.G880.qbW (Go.G880.qaR ⟨x0, x1⟩)).lo)).setCell ⟨gm, 1, none⟩ (.int .i64 (Go.G880.qbW (Go.G880.qaR ⟨x0, x1⟩)).hi)) = w7 at hb7 hx7 hm7 ⊢
   refine qd3 (n := 20) (S := fun w' => w'.cell? ⟨g, 0, none⟩ = some (.slice pl.ha pl.hl pl.hc) ∧ w'.cell? ⟨g, 1, none⟩ = some (.slice (some A) ps.hl ps.hc) ∧ w'.cell? ⟨gx, 0, none⟩ = some (.int .i64 x0) ∧ w'.cell? ⟨gx, 1, none⟩ = some (.int .i64 x1) ∧ w'.cell? ⟨gm, 0, none⟩ = some (.int .i64 (Go.G880.qbW (Go.G880.qaR ⟨x0, x1⟩)).lo) ∧ w'.cell? ⟨gm, 1, none⟩ = some (.int .i64 (Go.G880.qbW (Go.G880.qaR ⟨x0, x1⟩)).hi)) (ds := []) #[false, false, false, false, false, false, false, false, false, false, false, false, false, false, false, false, false, false, false, false] (by kernel_rfl) rfl rfl (⟨cb (qbH hb7) hc0, (cb (qbH hb7) hc1).trans (by rw [hA]), (qaD hx7 0).trans rfl, (qaD hx7 1).trans rfl, (qaD hm7 0).trans rfl, (qaD hm7 1).trans rfl⟩) (fun hH => ?_)
   replace hb7 := qbH hb7
   generalize w7.drew = wr at hb7 hH ⊢
   refine pC 0 (some 22) ?_
   refine pC 1 (some 23) ?_
   refine pC 2 (some 24) ?_
   refine tC 3 (some 25) hH ?_
   refine tC 4 (some 26) hH ?_
   refine pC 6 (some 28) ?_
   refine pC 7 (some 29) ?_
   refine pC 8 (some 30) ?_
   refine tC 9 (some 31) hH ?_
   refine tC 10 (some 32) hH ?_
   refine tC 12 (some 34) hH ?_
   refine tC 13 (some 35) hH ?_
   refine oC 5 (some 27) fun K hK => ?_
   refine gs Try.func11 #[.slice pl.ha pl.hl pl.hc, .agg #[.int .i64 ((Go.G880.qbW (Go.G880.qaR ⟨x0, x1⟩))).lo, .int .i64 ((Go.G880.qbW (Go.G880.qaR ⟨x0, x1⟩))).hi]] rfl ?_
   refine (polyAt_ (x := (Go.G880.qbW (Go.G880.qaR ⟨x0, x1⟩))) hl2 (hl.below hb7)).mono ?_
   rintro e w8 ⟨rfl, hb8⟩
   refine ⟨_, rfl, ?_⟩
   refine hK.out _ _ ⟨cb hb8 hH.1, cb hb8 hH.2.1, cb hb8 hH.2.2.1, cb hb8 hH.2.2.2.1, cb hb8 hH.2.2.2.2.1, cb hb8 hH.2.2.2.2.2⟩ (fun hH => ?_)
   clear hK K
   refine nA (some 27) ?_
   replace hb7 := qaC hb7 hb8
   clear hb8
   refine oC 11 (some 33) fun K hK => ?_
   refine gs Try.func11 #[.slice (some A) ps.hl ps.hc, .agg #[.int .i64 x0, .int .i64 x1]] rfl ?_
   refine (hA ▸ polyAt_ (x := ⟨x0, x1⟩) hs2 (hs.below hb7)).mono ?_
   rintro e w9 ⟨rfl, hb8⟩
   refine ⟨_, rfl, ?_⟩
   refine hK.out _ _ ⟨cb hb8 hH.1, cb hb8 hH.2.1, cb hb8 hH.2.2.1, cb hb8 hH.2.2.2.1, cb hb8 hH.2.2.2.2.1, cb hb8 hH.2.2.2.2.2⟩ (fun hH => ?_)
   clear hK K
   refine nA (some 33) ?_
   replace hb7 := qaC hb7 hb8
   clear hb8
   refine oC 14 (some 36) fun K hK => ?_
   refine gs Try.func48 #[.agg #[.int .i64 x0, .int .i64 x1], .agg #[.int .i64 ((Go.G880.qbW (Go.G880.qaR ⟨x0, x1⟩))).lo, .int .i64 ((Go.G880.qbW (Go.G880.qaR ⟨x0, x1⟩))).hi]] rfl ?_
   refine (subI_ ⟨x0, x1⟩ (Go.G880.qbW (Go.G880.qaR ⟨x0, x1⟩)) _).mono ?_
   rintro e w10 ⟨rfl, hb8⟩
   refine ⟨_, rfl, ?_⟩
   refine hK.out _ _ ⟨cb hb8 hH.1, cb hb8 hH.2.1, cb hb8 hH.2.2.1, cb hb8 hH.2.2.2.1, cb hb8 hH.2.2.2.2.1, cb hb8 hH.2.2.2.2.2⟩ (fun hH => ?_)
   clear hK K
   refine nA (some 36) ?_
   replace hb7 := qaC hb7 hb8
   clear hb8
   refine oC 15 (some 37) fun K hK => ?_
   refine gs Try.func39 #[.agg #[.int .i64 (Go.G880.qaH s ⟨x0, x1⟩).lo, .int .i64 (Go.G880.qaH s ⟨x0, x1⟩).hi], .agg #[.int .i64 (Go.G880.qcG ⟨x0, x1⟩ (Go.G880.qbW (Go.G880.qaR ⟨x0, x1⟩))).lo, .int .i64 (Go.G880.qcG ⟨x0, x1⟩ (Go.G880.qbW (Go.G880.qaR ⟨x0, x1⟩))).hi]] rfl ?_
   refine (mulI_ (Go.G880.qaH s ⟨x0, x1⟩) (Go.G880.qcG ⟨x0, x1⟩ (Go.G880.qbW (Go.G880.qaR ⟨x0, x1⟩))) _).mono ?_
   rintro e w11 ⟨rfl, hb8⟩
   refine ⟨_, rfl, ?_⟩
   refine hK.out _ _ ⟨cb hb8 hH.1, cb hb8 hH.2.1, cb hb8 hH.2.2.1, cb hb8 hH.2.2.2.1, cb hb8 hH.2.2.2.2.1, cb hb8 hH.2.2.2.2.2⟩ (fun hH => ?_)
   clear hK K
   refine nA (some 37) ?_
   replace hb7 := qaC hb7 hb8
   clear hb8
   refine oC 16 (some 38) fun K hK => ?_
   refine gs Try.func38 #[.agg #[.int .i64 (Go.G880.qaH l (Go.G880.qbW (Go.G880.qaR ⟨x0, x1⟩))).lo, .int .i64 (Go.G880.qaH l (Go.G880.qbW (Go.G880.qaR ⟨x0, x1⟩))).hi], .agg #[.int .i64 (Go.G880.qbJ (Go.G880.qaH s ⟨x0, x1⟩) (Go.G880.qcG ⟨x0, x1⟩ (Go.G880.qbW (Go.G880.qaR ⟨x0, x1⟩)))).lo, .int .i64 (Go.G880.qbJ (Go.G880.qaH s ⟨x0, x1⟩) (Go.G880.qcG ⟨x0, x1⟩ (Go.G880.qbW (Go.G880.qaR ⟨x0, x1⟩)))).hi]] rfl ?_
   refine (addI_ (Go.G880.qaH l (Go.G880.qbW (Go.G880.qaR ⟨x0, x1⟩))) (Go.G880.qbJ (Go.G880.qaH s ⟨x0, x1⟩) (Go.G880.qcG ⟨x0, x1⟩ (Go.G880.qbW (Go.G880.qaR ⟨x0, x1⟩)))) _).mono ?_
   rintro e w12 ⟨rfl, hb8⟩
   refine ⟨_, rfl, ?_⟩
   refine hK.out _ _ ⟨cb hb8 hH.1, cb hb8 hH.2.1, cb hb8 hH.2.2.1, cb hb8 hH.2.2.2.1, cb hb8 hH.2.2.2.2.1, cb hb8 hH.2.2.2.2.2⟩ (fun hH => ?_)
   clear hK K
   refine nA (some 38) ?_
   replace hb7 := qaC hb7 hb8
   clear hb8
   refine oC 17 (some 39) fun K hK => ?_
   refine gs Try.func51 #[.agg #[.int .i64 (Go.G880.qbV (Go.G880.qaH l (Go.G880.qbW (Go.G880.qaR ⟨x0, x1⟩))) (Go.G880.qbJ (Go.G880.qaH s ⟨x0, x1⟩) (Go.G880.qcG ⟨x0, x1⟩ (Go.G880.qbW (Go.G880.qaR ⟨x0, x1⟩))))).lo, .int .i64 (Go.G880.qbV (Go.G880.qaH l (Go.G880.qbW (Go.G880.qaR ⟨x0, x1⟩))) (Go.G880.qbJ (Go.G880.qaH s ⟨x0, x1⟩) (Go.G880.qcG ⟨x0, x1⟩ (Go.G880.qbW (Go.G880.qaR ⟨x0, x1⟩))))).hi]] rfl ?_
   refine (signI_ (Go.G880.qbV (Go.G880.qaH l (Go.G880.qbW (Go.G880.qaR ⟨x0, x1⟩))) (Go.G880.qbJ (Go.G880.qaH s ⟨x0, x1⟩) (Go.G880.qcG ⟨x0, x1⟩ (Go.G880.qbW (Go.G880.qaR ⟨x0, x1⟩))))) _).mono ?_
   rintro e w13 ⟨rfl, hb8⟩
   refine ⟨_, rfl, ?_⟩
   refine hK.out _ _ ⟨cb hb8 hH.1, cb hb8 hH.2.1, cb hb8 hH.2.2.1, cb hb8 hH.2.2.2.1, cb hb8 hH.2.2.2.2.1, cb hb8 hH.2.2.2.2.2⟩ (fun hH => ?_)
   clear hK K
   refine nA (some 39) ?_
   replace hb7 := qaC hb7 hb8
   clear hb8
   refine pC 18 (some 40) ?_
   refine pC 19 (some 4) ?_
   refine qfD (by kernel_rfl) ?_
   go_wp2
   go_ret
   exact ⟨by simp only [qe4, hq, cond_false, h2]; rfl, by repeat (first | exact hb7 | apply qbH | apply qeK)⟩
end Go.Proofs.Ytogpbandlpjccaa.TX
/- The state of a search for roots: a block with four slices, two of which are read and two of which grow. -/
set_option linter.unusedVariables false
set_option linter.unusedSimpArgs false
namespace Go.Proofs.Ytogpbandlpjccaa.TX
open Go.RowKit Go.Proofs.YtogpbandlpjccaaW.PrintWords Go.Proofs.YtogpbandlpjccaaW.PrintLast Go.RX
inductive Qd : World → World → Prop
 | n {W V : World} (m : Nat) (h : Qd W V) : Qd W (V.drewN m)
 | d {W V : World} (h : Qd W V) : Qd W V.drew
 | a {W V : World} (o : Obj) (h : Qd W V) : Qd W (V.alloc o)
 | r (W : World) : Qd W W
theorem Qd.lie {W V : World} (q : Qd W V) : Below W.heap.size W V := by
 induction q with
 | n m _ ih => exact qeK ih m
 | d _ ih => exact qbH ih
 | a o _ ih => exact qcK ih o
 | r => exact Below.refl _ _
theorem qb {W V : World} (q : Qd W V := by repeat' (first | (with_reducible exact Qd.r _) | (with_reducible refine Qd.n _ ?_) | (with_reducible refine Qd.d ?_) | (with_reducible refine Qd.a _ ?_))) : Below W.heap.size W V := q.lie
def kIv : Kd Iv := Kd.iso (Kd.pair (Kd.int .i64) (Kd.int .i64)) (fun x : Iv => (x.lo, x.hi))
theorem kIv_mk (w : World) (base : Nat) (ok : Nat → Prop) (x : Iv) : kIv.M w base ok x [.int .i64 x.lo, .int .i64 x.hi] := ⟨[.int .i64 x.lo], [.int .i64 x.hi], rfl, rfl, rfl⟩
structure Fin (T : Nat) (w0 W : World) (g : Nat) (pl ps : Pl) (s : List Value) (vu vv : Value) (u v : List Iv) : Prop where
 blk : W.heap[g]? = some (.cells #[.slice pl.ha pl.hl pl.hc, .slice ps.ha ps.hl ps.hc, vu, vv] T (0, 0))
 u : kIv.R 31 W w0.heap.size (fun _ => True) vu u
 v : kIv.R 31 W w0.heap.size (fun _ => True) vv v
 uv : ∀ k, vu.ownBlock = some k → vv.ownBlock ≠ some k
 below : Below w0.heap.size w0 W
 sl : Rd ps s W
 sk : ∀ k, ps.adr = some k → k ≠ g ∧ vu.ownBlock ≠ some k ∧ vv.ownBlock ≠ some k
structure Fr (W W' : World) (g : Nat) (vu vv vu' vv' : Value) : Prop where
 size : W.heap.size ≤ W'.heap.size
 keep : ∀ i, i < W.heap.size → i ≠ g → some i ≠ vu.ownBlock → some i ≠ vv.ownBlock → W'.heap[i]? = W.heap[i]?
 u : ∀ k, vu'.ownBlock = some k → vu.ownBlock = some k ∨ W.heap.size ≤ k
 v : ∀ k, vv'.ownBlock = some k → vv.ownBlock = some k ∨ W.heap.size ≤ k
theorem Fr.of_below {W W' : World} {g : Nat} {vu vv : Value} (h : Below W.heap.size W W') : Fr W W' g vu vv vu vv := ⟨h.size, fun i hi _ _ _ => h.block i hi, fun _ h => .inl h, fun _ h => .inl h⟩
theorem Fr.trans {W W1 W2 : World} {g : Nat} {vu vv vu1 vv1 vu2 vv2 : Value} (h : Fr W W1 g vu vv vu1 vv1) (k : Fr W1 W2 g vu1 vv1 vu2 vv2) : Fr W W2 g vu vv vu2 vv2 := by
 refine ⟨Nat.le_trans h.size k.size, fun i hi hg hu hv => ?_, fun b hb => ?_, fun b hb => ?_⟩
 ·refine (k.keep i (Nat.lt_of_lt_of_le hi h.size) hg (fun e => ?_) (fun e => ?_)).trans (h.keep i hi hg hu hv)
  ·rcases h.u i e.symm with h1 | h1
   ·exact hu h1.symm
   ·omega
  ·rcases h.v i e.symm with h1 | h1
   ·exact hv h1.symm
   ·omega
 ·rcases k.u b hb with h1 | h1
  ·exact h.u b h1
  ·exact .inr (Nat.le_trans h.size h1)
 ·rcases k.v b hb with h1 | h1
  ·exact h.v b h1
  ·exact .inr (Nat.le_trans h.size h1)
theorem Fr.old {w W W' : World} {g gx : Nat} {vu vv vu' vv' : Value} {o : Obj} (h : Fr W W' g vu vv vu' vv') (hg : g < w.heap.size) (hx : w.heap.size ≤ gx) (ou : ∀ k, vu.ownBlock = some k → k < w.heap.size) (ov : ∀ k, vv.ownBlock = some k → k < w.heap.size)
  (hb : W.heap[gx]? = some o) : W'.heap[gx]? = some o :=
 (h.keep gx (qeQ hb) (by omega) (fun e => by have := ou gx e.symm; omega) (fun e => by have := ov gx e.symm; omega)).trans hb
theorem own_lt_ {W : World} {b : Nat} {v : Value} {xs : List Iv} {ok : Nat → Prop} (h : kIv.R 31 W b ok v xs) {k : Nat} (hk : v.ownBlock = some k) : k < W.heap.size := by
 have := (Kd.R_bound h).1 k hk
 exact this.2.2.1
section
variable {T : Nat} {w0 W : World} {g : Nat} {pl ps : Pl} {s : List Value} {vu vv : Value} {u v : List Iv}
theorem Fin.lt (h : Fin T w0 W g pl ps s vu vv u v) : g < W.heap.size := qeQ h.blk
theorem Fin.gu (h : Fin T w0 W g pl ps s vu vv u v) (hT : 31 ≠ T) : some g ≠ vu.ownBlock := Kd.R_ne h.u h.blk hT
theorem Fin.gv (h : Fin T w0 W g pl ps s vu vv u v) (hT : 31 ≠ T) : some g ≠ vv.ownBlock := Kd.R_ne h.v h.blk hT
theorem Fin.move (h : Fin T w0 W g pl ps s vu vv u v) {W' : World} (hb : Below W.heap.size W W') : Fin T w0 W' g pl ps s vu vv u v :=
 ⟨qaM h.blk hb, Kd.R_below h.u hb, Kd.R_below h.v hb, h.uv, qaC h.below hb, h.sl.below hb, h.sk⟩
theorem Fin.drew (h : Fin T w0 W g pl ps s vu vv u v) : Fin T w0 W.drew g pl ps s vu vv u v := h.move (qbH (Below.refl _ _))
theorem Fin.putU (h : Fin T w0 W g pl ps s vu vv u v) (hT : 31 ≠ T) (hg : w0.heap.size ≤ g) {w1 : World} {v1 : Value} {p : Iv} (hr : kIv.R 31 w1 w0.heap.size (fun _ => True) v1 (u ++ [p])) (hb : Below w0.heap.size w0 w1)
  (hgr : W.grownBy w1 vu.ownBlock) (hat : v1.ownBlock = vu.ownBlock ∨ ∃ b, v1.ownBlock = some b ∧ W.heap.size ≤ b) :
  Fin T w0 (w1.setCell ⟨g, 2, none⟩ v1) g pl ps s v1 vv (u ++ [p]) v ∧ Fr W (w1.setCell ⟨g, 2, none⟩ v1) g vu vv v1 vv := by
 have hblk : w1.heap[g]? = some (.cells #[.slice pl.ha pl.hl pl.hc, .slice ps.ha ps.hl ps.hc, vu, vv] T (0, 0)) := (hgr.block g h.lt (h.gu hT)).trans h.blk
 have hne : some g ≠ v1.ownBlock := Kd.R_ne hr hblk hT
 have hvo : ∀ k, vv.ownBlock = some k → k < W.heap.size ∧ some k ≠ vu.ownBlock := fun k hk => ⟨own_lt_ h.v hk, fun e => h.uv k e.symm hk⟩
 have hv1 : kIv.R 31 w1 w0.heap.size (fun k => vv.ownBlock = some k) vv v := by
  have h1 : kIv.R 31 W w0.heap.size (fun k => vv.ownBlock = some k) vv v := ⟨fun k hk => hk, h.v.2⟩
  exact Kd.R_grown h1 hgr fun k hk => (hvo k hk).2
 refine ⟨⟨qdO (cs := #[.slice pl.ha pl.hl pl.hc, .slice ps.ha ps.hl ps.hc, vu, vv]) hblk 2 _ rfl, ?_, ?_, ?_, qgH hb hg, ?_, ?_⟩, ⟨?_, ?_, ?_, fun _ hk => .inl hk⟩⟩
 ·exact Kd.R_mono (Kd.R_far (p := ⟨g, 2, none⟩) (show kIv.R 31 w1 w0.heap.size (fun k => v1.ownBlock = some k) v1 (u ++ [p]) from ⟨fun k hk => hk, hr.2⟩) (fun k hk e => hne (by rw [hk]; exact congrArg some e.symm)) _) fun _ _ => trivial
 ·exact Kd.R_mono (Kd.R_far (p := ⟨g, 2, none⟩) hv1 (fun k hk e => (h.gv hT) (by rw [hk]; exact congrArg some e.symm)) _) fun _ _ => trivial
 ·intro k hk hv
  rcases hat with e | ⟨b, e, hle⟩
  ·exact h.uv k (e ▸ hk) hv
  ·rw [e] at hk
   cases hk
   have := (hvo k hv).1
   omega
 ·refine Lst.mono h.sl fun k hk => ?_
  obtain ⟨k1, k2, k3⟩ := h.sk k hk
  exact (Below.heap_setCell w1 ⟨g, 2, none⟩ v1 k k1).trans (hgr.block k (h.sl.low k hk) (fun e => k2 e.symm))
 ·intro k hk
  obtain ⟨k1, k2, k3⟩ := h.sk k hk
  refine ⟨k1, fun e1 => ?_, k3⟩
  rcases hat with e | ⟨b, e, hle⟩
  ·exact k2 (e ▸ e1)
  ·rw [e] at e1
   cases e1
   have := h.sl.low _ hk
   omega
 ·simpa [World.setCell] using hgr.size
 ·intro i hi hig hiu hiv
  exact (Below.heap_setCell w1 ⟨g, 2, none⟩ v1 i hig).trans (hgr.block i hi hiu)
 ·intro k hk
  rcases hat with e | ⟨b, e, hle⟩
  ·exact .inl (e ▸ hk)
  ·rw [e] at hk
   cases hk
   exact .inr hle
theorem Fin.putV (h : Fin T w0 W g pl ps s vu vv u v) (hT : 31 ≠ T) (hg : w0.heap.size ≤ g) {w1 : World} {v1 : Value} {p : Iv} (hr : kIv.R 31 w1 w0.heap.size (fun _ => True) v1 (v ++ [p])) (hb : Below w0.heap.size w0 w1)
  (hgr : W.grownBy w1 vv.ownBlock) (hat : v1.ownBlock = vv.ownBlock ∨ ∃ b, v1.ownBlock = some b ∧ W.heap.size ≤ b) :
  Fin T w0 (w1.setCell ⟨g, 3, none⟩ v1) g pl ps s vu v1 u (v ++ [p]) ∧ Fr W (w1.setCell ⟨g, 3, none⟩ v1) g vu vv vu v1 := by
 have hblk : w1.heap[g]? = some (.cells #[.slice pl.ha pl.hl pl.hc, .slice ps.ha ps.hl ps.hc, vu, vv] T (0, 0)) := (hgr.block g h.lt (h.gv hT)).trans h.blk
 have hne : some g ≠ v1.ownBlock := Kd.R_ne hr hblk hT
 have huo : ∀ k, vu.ownBlock = some k → k < W.heap.size ∧ some k ≠ vv.ownBlock := fun k hk => ⟨own_lt_ h.u hk, fun e => h.uv k hk e.symm⟩
 have hu1 : kIv.R 31 w1 w0.heap.size (fun k => vu.ownBlock = some k) vu u := by
  have h1 : kIv.R 31 W w0.heap.size (fun k => vu.ownBlock = some k) vu u := ⟨fun k hk => hk, h.u.2⟩
  exact Kd.R_grown h1 hgr fun k hk => (huo k hk).2
 refine ⟨⟨qdO (cs := #[.slice pl.ha pl.hl pl.hc, .slice ps.ha ps.hl ps.hc, vu, vv]) hblk 3 _ rfl, ?_, ?_, ?_, qgH hb hg, ?_, ?_⟩, ⟨?_, ?_, fun _ hk => .inl hk, ?_⟩⟩
 ·exact Kd.R_mono (Kd.R_far (p := ⟨g, 3, none⟩) hu1 (fun k hk e => (h.gu hT) (by rw [hk]; exact congrArg some e.symm)) _) fun _ _ => trivial
 ·exact Kd.R_mono (Kd.R_far (p := ⟨g, 3, none⟩) (show kIv.R 31 w1 w0.heap.size (fun k => v1.ownBlock = some k) v1 (v ++ [p]) from ⟨fun k hk => hk, hr.2⟩) (fun k hk e => hne (by rw [hk]; exact congrArg some e.symm)) _) fun _ _ => trivial
 ·intro k hk hv
  rcases hat with e | ⟨b, e, hle⟩
  ·exact h.uv k hk (e ▸ hv)
  ·rw [e] at hv
   cases hv
   have := (huo k hk).1
   omega
 ·refine Lst.mono h.sl fun k hk => ?_
  obtain ⟨k1, k2, k3⟩ := h.sk k hk
  exact (Below.heap_setCell w1 ⟨g, 3, none⟩ v1 k k1).trans (hgr.block k (h.sl.low k hk) (fun e => k3 e.symm))
 ·intro k hk
  obtain ⟨k1, k2, k3⟩ := h.sk k hk
  refine ⟨k1, k2, fun e1 => ?_⟩
  rcases hat with e | ⟨b, e, hle⟩
  ·exact k3 (e ▸ e1)
  ·rw [e] at e1
   cases e1
   have := h.sl.low _ hk
   omega
 ·simpa [World.setCell] using hgr.size
 ·intro i hi hig hiu hiv
  exact (Below.heap_setCell w1 ⟨g, 3, none⟩ v1 i hig).trans (hgr.block i hi hiv)
 ·intro k hk
  rcases hat with e | ⟨b, e, hle⟩
  ·exact .inl (e ▸ hk)
  ·rw [e] at hk
   cases hk
   exact .inr hle
end
def srch (l s : List Value) : Nat → Iv → Int → List Iv → List Iv → Bool × List Iv × List Iv
 | 0, _, _, u, v => (false, u, v)
 | k + 1, x, d, u, v =>
  bif qe4 l s x then (true, u, v) else
  bif Go.G880.qaT l x then (decide ((u ++ [x]).length + v.length ≤ 64), u ++ [x], v) else
  bif d == 0 || decide (Go.G880.qdF x < 2) then (decide (u.length + (v ++ [x]).length ≤ 64), u, v ++ [x]) else
  bif (srch l s k ⟨x.lo, Go.G880.qaR x⟩ (d - 1) u v).1 then
   srch l s k ⟨Go.G880.qaR x, x.hi⟩ (d - 1) (srch l s k ⟨x.lo, Go.G880.qaR x⟩ (d - 1) u v).2.1 (srch l s k ⟨x.lo, Go.G880.qaR x⟩ (d - 1) u v).2.2
  else (false, (srch l s k ⟨x.lo, Go.G880.qaR x⟩ (d - 1) u v).2.1, (srch l s k ⟨x.lo, Go.G880.qaR x⟩ (d - 1) u v).2.2)
theorem srch_few (l s : List Value) : ∀ k x d u v, u.length + v.length ≤ 64 → ((srch l s k x d u v).1 = true → (srch l s k x d u v).2.1.length + (srch l s k x d u v).2.2.length ≤ 64) := by
 intro k
 induction k with
 | zero => intro x d u v _ h; simp [srch] at h
 | succ k ih =>
  intro x d u v h0
  unfold srch
  cases qe4 l s x with
  | true => intro _; exact h0
  | false =>
  cases Go.G880.qaT l x with
  | true => intro h; exact of_decide_eq_true h
  | false =>
  cases d == 0 || decide (Go.G880.qdF x < 2) with
  | true => intro h; exact of_decide_eq_true h
  | false =>
   simp only [cond_false]
   cases hq : (srch l s k ⟨x.lo, Go.G880.qaR x⟩ (d - 1) u v).1 with
   | true => exact ih _ _ _ _ (ih _ _ _ _ h0 hq)
   | false => intro h; cases h
end Go.Proofs.Ytogpbandlpjccaa.TX
