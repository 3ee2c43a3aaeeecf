/- What the callees of the search for roots do, said of a world. -/
import Derived.Test.YtmdicdkceekodaaGR
import Derived.Test.YtmdicdkceekodaaWW
set_option linter.unusedVariables false
set_option linter.unusedSimpArgs false
namespace Go.Proofs.Ytmdicdkceekodaa.TX
open Go Go.RowKit Go.RX
abbrev Rd (p : Pl) (l : List Value) (w : World) : Prop := Lst p zIv l false 35 w
theorem Rd.low {p : Pl} {l : List Value} {w : World} (h : Rd p l w) : ∀ k, p.adr = some k → k < w.heap.size := by
 intro k hk
 rcases h.lay with ⟨h1, _⟩ | ⟨k', o, c, t', fz, _, h2, h3, _⟩
 ·rw [h1] at hk; cases hk
 ·rw [h2] at hk
  cases hk
  exact (Array.getElem?_eq_some_iff.1 h3).1
theorem Rd.below {p : Pl} {l : List Value} {w w1 : World} (h : Rd p l w) (hb : Below w.heap.size w w1) : Rd p l w1 :=
 Lst.mono h fun k hk => hb.block k (h.low k hk)
theorem read2 {g : FuncId} {l : List Value} {x : Iv} {v : Value} (h : GivesA Try.prog g [(aL zIv 35).enc l, (aV cIv).enc x] v) (hv : RX.plain v = true) {w : World} {p : Pl} (hL : Rd p l w) :
  Calls Try.prog g #[.slice p.ha p.hl p.hc, .agg #[.int .i64 x.lo, .int .i64 x.hi]] w fun e w' => e = .returned v ∧ Below w.heap.size w w' :=
 GivesA.calls (xs := [.slice p.ha p.hl p.hc, .agg #[.int .i64 x.lo, .int .i64 x.hi]]) h hv (Ready.l hL hL.low (Ready.v rfl (Ready.nil w)))
theorem read3 {g : FuncId} {l s : List Value} {x : Iv} {v : Value} (h : GivesA Try.prog g [(aL zIv 35).enc l, (aL zIv 35).enc s, (aV cIv).enc x] v) (hv : RX.plain v = true) {w : World} {p q : Pl} (hL : Rd p l w) (hS : Rd q s w) :
  Calls Try.prog g #[.slice p.ha p.hl p.hc, .slice q.ha q.hl q.hc, .agg #[.int .i64 x.lo, .int .i64 x.hi]] w fun e w' => e = .returned v ∧ Below w.heap.size w w' :=
 GivesA.calls (xs := [.slice p.ha p.hl p.hc, .slice q.ha q.hl q.hc, .agg #[.int .i64 x.lo, .int .i64 x.hi]]) h hv (Ready.l hL hL.low (Ready.l hS hS.low (Ready.v rfl (Ready.nil w))))
theorem polyAt_ {l : List Value} {x : Iv} (hl : l.length ≤ 1048576) {w : World} {p : Pl} (hL : Rd p l w) :
  Calls Try.prog 69 #[.slice p.ha p.hl p.hc, .agg #[.int .i64 x.lo, .int .i64 x.hi]] w fun e w' => e = .returned (.agg #[.int .i64 (Go.G880.impl_PolyAt l x).lo, .int .i64 (Go.G880.impl_PolyAt l x).hi]) ∧ Below w.heap.size w w' :=
 read2 (impl_PolyAt.gives l x (decide_eq_true (by omega))) rfl hL
theorem signI_ (a : Iv) (w : World) : Calls Try.prog 68 #[.agg #[.int .i64 a.lo, .int .i64 a.hi]] w fun e w' => e = .returned (.int .i64 (Go.G880.impl_SignI a)) ∧ Below w.heap.size w w' := (impl_SignI.gives a).calls rfl rfl w
theorem midI_ (a : Iv) (w : World) : Calls Try.prog 56 #[.agg #[.int .i64 a.lo, .int .i64 a.hi]] w fun e w' => e = .returned (.int .i64 (Go.G880.impl_MidI a)) ∧ Below w.heap.size w w' := (impl_MidI.gives a).calls rfl rfl w
theorem widthI_ (a : Iv) (w : World) : Calls Try.prog 55 #[.agg #[.int .i64 a.lo, .int .i64 a.hi]] w fun e w' => e = .returned (.int .i64 (Go.G880.impl_WidthI a)) ∧ Below w.heap.size w w' := (impl_WidthI.gives a).calls rfl rfl w
theorem at_ (n : Int) (w : World) : Calls Try.prog 70 #[.int .i64 n] w fun e w' => e = .returned (.agg #[.int .i64 (Go.G880.impl_at n).lo, .int .i64 (Go.G880.impl_at n).hi]) ∧ Below w.heap.size w w' := (impl_at.gives n).calls rfl rfl w
theorem subI_ (a b : Iv) (w : World) : Calls Try.prog 71 #[.agg #[.int .i64 a.lo, .int .i64 a.hi], .agg #[.int .i64 b.lo, .int .i64 b.hi]] w fun e w' => e = .returned (.agg #[.int .i64 (Go.G880.impl_SubI a b).lo, .int .i64 (Go.G880.impl_SubI a b).hi]) ∧ Below w.heap.size w w' := (impl_SubI.gives a b).calls rfl rfl w
theorem mulI_ (a b : Iv) (w : World) : Calls Try.prog 22 #[.agg #[.int .i64 a.lo, .int .i64 a.hi], .agg #[.int .i64 b.lo, .int .i64 b.hi]] w fun e w' => e = .returned (.agg #[.int .i64 (Go.G880.impl_MulI a b).lo, .int .i64 (Go.G880.impl_MulI a b).hi]) ∧ Below w.heap.size w w' := (impl_MulI.gives a b).calls rfl rfl w
theorem addI_ (a b : Iv) (w : World) : Calls Try.prog 21 #[.agg #[.int .i64 a.lo, .int .i64 a.hi], .agg #[.int .i64 b.lo, .int .i64 b.hi]] w fun e w' => e = .returned (.agg #[.int .i64 (Go.G880.impl_AddI a b).lo, .int .i64 (Go.G880.impl_AddI a b).hi]) ∧ Below w.heap.size w w' := (impl_AddI.gives a b).calls rfl rfl w
theorem uniqueRoot_ {l : List Value} {x : Iv} (hl : l.length ≤ 1048576) {w : World} {p : Pl} (hL : Rd p l w) :
  Calls Try.prog 54 #[.slice p.ha p.hl p.hc, .agg #[.int .i64 x.lo, .int .i64 x.hi]] w fun e w' => e = .returned (.bool (Go.G880.impl_UniqueRoot l x)) ∧ Below w.heap.size w w' :=
 read2 (impl_UniqueRoot.gives l x (decide_eq_true (by omega))) rfl hL
def rootless (l s : List Value) (x : Iv) : Bool :=
 bif Go.G880.impl_SignI (Go.G880.impl_PolyAt l x) != 0 then true else bif s.isEmpty then false else
  Go.G880.impl_SignI (Go.G880.impl_AddI (Go.G880.impl_PolyAt l (Go.G880.impl_at (Go.G880.impl_MidI x))) (Go.G880.impl_MulI (Go.G880.impl_PolyAt s x) (Go.G880.impl_SubI x (Go.G880.impl_at (Go.G880.impl_MidI x))))) != 0
end Go.Proofs.Ytmdicdkceekodaa.TX
/- Whether an interval certainly contains no root: the machine walks it. -/
set_option linter.unusedVariables false
set_option linter.unusedSimpArgs false
namespace Go.Proofs.Ytmdicdkceekodaa.TX
open Go.RowKit Go.Proofs.YtmdicdkceekodaaW.PrintWords Go.Proofs.YtmdicdkceekodaaW.PrintLast Go.RX
theorem cb {w w1 : World} {a : Addr} {v : Value} (hb : Below w.heap.size w w1) (h : w.cell? a = some v) : w1.cell? a = some v := (hb.cell (World.block_lt_of_cell? w _ h)).trans h
set_option maxHeartbeats 8000000 in
set_option maxRecDepth 100000 in
theorem rootless_ (w : World) (g : Nat) (pl ps : Pl) (l s : List Value) (x0 x1 : Int) (vu vv : Value)
  (hb : w.heap[g]? = some (.cells #[.slice pl.ha pl.hl pl.hc, .slice ps.ha ps.hl ps.hc, vu, vv] 52 (0, 0)))
  (hl : Rd pl l w) (hs : Rd ps s w) (hl2 : l.length ≤ 1048576) (hs2 : s.length ≤ 1048576) (hn : (ps.ha = none ∧ ps.hl = 0 ∧ ps.hc = 0 ∧ s = []) ∨ (ps.ha.isSome = true ∧ s.isEmpty = false)) :
  Calls Try.prog 53 #[.pointer (some ⟨g, 0, none⟩), .agg #[.int .i64 x0, .int .i64 x1]] w fun e w' => e = .returned (.bool (rootless l s ⟨x0, x1⟩)) ∧ Below w.heap.size w w' := by
 have hu35 := Try.underlying35
 have hu52 := Try.underlying52
 have hc0 : w.cell? ⟨g, 0, none⟩ = some (.slice pl.ha pl.hl pl.hc) := (blk_cell hb 0).trans rfl
 have hc1 : w.cell? ⟨g, 1, none⟩ = some (.slice ps.ha ps.hl ps.hc) := (blk_cell hb 1).trans rfl
 go_enter Try.func53, Try.ntmps53
 go_wp2_with (first | ((with_reducible refine gate_dst (N := 3) rfl ?_); refine box_event ?hg (N := 3) ?hd (cs := #[.int .i64 x0, .int .i64 x1]) (t := 35) ?hr ?_; (case hd => rfl); (case hg => rfl); (case hr => first | (go_simp; done) | (go_simp; rfl)); intro gx hgx w1 hx hb1; skip; clear hgx))
 refine start_ (n := 8) (S := fun w' => w'.cell? ⟨g, 0, none⟩ = some (.slice pl.ha pl.hl pl.hc) ∧ w'.cell? ⟨g, 1, none⟩ = some (.slice ps.ha ps.hl ps.hc) ∧ w'.cell? ⟨gx, 0, none⟩ = some (.int .i64 x0) ∧ w'.cell? ⟨gx, 1, none⟩ = some (.int .i64 x1)) (ds := []) #[false, false, false, false, false, false, false, false] (by kernel_rfl) rfl rfl (⟨cb (below_drew1 hb1) hc0, cb (below_drew1 hb1) hc1, (blk_cell hx 0).trans rfl, (blk_cell hx 1).trans rfl⟩) (fun hH => ?_)
 replace hb1 := below_drew1 hb1
 replace hx := blk_drew hx
 generalize w1.drew = wr at hb1 hx hH ⊢
 refine pure_ (i := 0) (N := (some 6)) (v := ?_) (a' := ?_) #[true, false, false, false, false, false, false, false] rfl rfl (by kernel_rfl) (fun _ _ _ h => h) (Or.inl ⟨by rfl, ?_⟩) ?_ ?_
 rotate_left
 ·intro w'
  go_simp
  with_reducible rfl
 rotate_left
 ·simp only [Act.put, List.setIfInBounds_toArray, List.set_cons_zero, List.set_cons_succ, i64_w, i32_w]
  rfl
 refine pure_ (i := 1) (N := (some 7)) (v := ?_) (a' := ?_) #[true, true, false, false, false, false, false, false] rfl rfl (by kernel_rfl) (fun _ _ _ h => h) (Or.inl ⟨by rfl, ?_⟩) ?_ ?_
 rotate_left
 ·intro w'
  go_simp
  with_reducible rfl
 rotate_left
 ·simp only [Act.put, List.setIfInBounds_toArray, List.set_cons_zero, List.set_cons_succ, i64_w, i32_w]
  rfl
 refine pure_ (i := 2) (N := (some 8)) (v := ?_) (a' := ?_) #[true, true, true, false, false, false, false, false] rfl rfl (by kernel_rfl) (fun _ _ _ h => h) (Or.inl ⟨by rfl, ?_⟩) ?_ ?_
 rotate_left
 ·intro w'
  go_simp
  with_reducible rfl
 rotate_left
 ·simp only [Act.put, List.setIfInBounds_toArray, List.set_cons_zero, List.set_cons_succ, i64_w, i32_w]
  rfl
 refine take_ (i := 3) (N := (some 9)) (v := ?_) (a' := ?_) #[true, true, true, true, false, false, false, false] rfl rfl (by kernel_rfl) (fun _ _ _ h => h) (Or.inl ⟨by rfl, ?_⟩) hH ?_ ?_
 rotate_left
 ·rintro w' ⟨s0, s1, s2, s3⟩
  go_simp
  with_reducible rfl
 rotate_left
 ·simp only [Act.put, List.setIfInBounds_toArray, List.set_cons_zero, List.set_cons_succ, i64_w, i32_w]
  rfl
 refine take_ (i := 4) (N := (some 10)) (v := ?_) (a' := ?_) #[true, true, true, true, true, false, false, false] rfl rfl (by kernel_rfl) (fun _ _ _ h => h) (Or.inl ⟨by rfl, ?_⟩) hH ?_ ?_
 rotate_left
 ·rintro w' ⟨s0, s1, s2, s3⟩
  go_simp
  with_reducible rfl
 rotate_left
 ·simp only [Act.put, List.setIfInBounds_toArray, List.set_cons_zero, List.set_cons_succ, i64_w, i32_w]
  rfl
 refine one_ (i := 5) (N := (some 11)) #[true, true, true, true, true, true, false, false] rfl rfl (by kernel_rfl) (by decide) (fun K hK => ?_)
 refine goes_ Try.func69 (by kernel_rfl) rfl #[.slice pl.ha pl.hl pl.hc, .agg #[.int .i64 x0, .int .i64 x1]] (by rfl) rfl rfl (by (try simp only [List.map_toArray, List.map_cons, List.map_nil]); first | done | rfl | (simp only [List.length_drop, List.length_take]; rfl)) ?_
 refine (polyAt_ (x := ⟨x0, x1⟩) hl2 (hl.below hb1)).mono ?_
 rintro e w2 ⟨rfl, hb2⟩
 refine ⟨_, rfl, ?_⟩
 refine hK.out _ _ ⟨cb hb2 hH.1, cb hb2 hH.2.1, cb hb2 hH.2.2.1, cb hb2 hH.2.2.2⟩ (fun hH => ?_)
 clear hK K
 refine norm_ (a' := ?_) ?_ ?_
 rotate_left
 ·show Act.put _ (some 11) _ = _
  simp only [Act.put, List.setIfInBounds_toArray, List.set_cons_zero, List.set_cons_succ, i64_w, i32_w]
  rfl
 refine one_ (i := 6) (N := (some 12)) #[true, true, true, true, true, true, true, false] rfl rfl (by kernel_rfl) (by decide) (fun K hK => ?_)
 refine goes_ Try.func68 (by kernel_rfl) rfl #[.agg #[.int .i64 (Go.G880.impl_PolyAt l ⟨x0, x1⟩).lo, .int .i64 (Go.G880.impl_PolyAt l ⟨x0, x1⟩).hi]] (by rfl) rfl rfl (by (try simp only [List.map_toArray, List.map_cons, List.map_nil]); first | done | rfl | (simp only [List.length_drop, List.length_take]; rfl)) ?_
 refine (signI_ (Go.G880.impl_PolyAt l ⟨x0, x1⟩) _).mono ?_
 rintro e w3 ⟨rfl, hb3⟩
 refine ⟨_, rfl, ?_⟩
 refine hK.out _ _ ⟨cb hb3 hH.1, cb hb3 hH.2.1, cb hb3 hH.2.2.1, cb hb3 hH.2.2.2⟩ (fun hH => ?_)
 clear hK K
 refine norm_ (a' := ?_) ?_ ?_
 rotate_left
 ·show Act.put _ (some 12) _ = _
  simp only [Act.put, List.setIfInBounds_toArray, List.set_cons_zero, List.set_cons_succ, i64_w, i32_w]
  rfl
 refine pure_ (i := 7) (N := (some 13)) (v := ?_) (a' := ?_) #[true, true, true, true, true, true, true, true] rfl rfl (by kernel_rfl) (fun _ _ _ h => h) (Or.inl ⟨by rfl, ?_⟩) ?_ ?_
 rotate_left
 ·intro w'
  go_simp
  with_reducible rfl
 rotate_left
 ·simp only [Act.put, List.setIfInBounds_toArray, List.set_cons_zero, List.set_cons_succ, i64_w, i32_w]
  rfl
 refine done_ (by kernel_rfl) ?_
 replace hx := blk_below (blk_below hx hb2) hb3
 replace hb3 := below_step hb1 (below_step hb2 hb3)
 clear hb1 hb2
 obtain ⟨c0, c1, d0, d1⟩ := hH
 cases hq : (Go.G880.impl_SignI (Go.G880.impl_PolyAt l ⟨x0, x1⟩) != 0) with
 | true =>
  go_wp2
  go_ret
  exact ⟨by simp only [rootless, hq, cond_true]; rfl, by repeat (first | exact hb3 | apply below_drew1 | apply pw_below_drewN)⟩
 | false =>
  rcases hn with ⟨h1, h2, h3, rfl⟩ | ⟨h1, h2⟩
  ·rw [h1, h2, h3] at c1
   have he : ∀ W : World, (binOp .eql 24 (.slice none 0 0) (.slice none 0 0)).run Try.prog W = .ok (.bool true) W := fun W => by kernel_rfl
   go_wp2
   go_ret
   exact ⟨by simp only [rootless, hq, cond_false, List.isEmpty_nil, cond_true]; rfl, by repeat (first | exact hb3 | apply below_drew1 | apply pw_below_drewN)⟩
  ·obtain ⟨A, hA⟩ := Option.isSome_iff_exists.1 h1
   have he : ∀ W : World, (binOp .eql 24 (.slice (some A) ps.hl ps.hc) (.slice none 0 0)).run Try.prog W = .ok (.bool false) W := fun W => by kernel_rfl
   rw [hA] at c1
   go_wp2_with (first | ((with_reducible refine gate_callee (f := 56) rfl ?_); refine goesL_ (some 20) rfl rfl Try.func56 (by kernel_rfl) rfl #[.agg #[.int .i64 x0, .int .i64 x1]] rfl (by (try simp only [List.map_toArray, List.map_cons, List.map_nil]); first | done | rfl | (simp only [List.length_drop, List.length_take]; rfl)) ?_; refine (midI_ ⟨x0, x1⟩ _).mono ?_; rintro e w4 ⟨rfl, hb4⟩; refine ⟨_, rfl, ?_⟩) | ((with_reducible refine gate_callee (f := 70) rfl ?_); refine goesL_ (some 21) rfl rfl Try.func70 (by kernel_rfl) rfl #[.int .i64 (Go.G880.impl_MidI ⟨x0, x1⟩)] rfl (by (try simp only [List.map_toArray, List.map_cons, List.map_nil]); first | done | rfl | (simp only [List.length_drop, List.length_take]; rfl)) ?_; refine (at_ _ _).mono ?_; rintro e w5 ⟨rfl, hb5⟩; refine ⟨_, rfl, ?_⟩) | ((with_reducible refine gate_dst (N := 5) rfl ?_); refine box_event ?hg (N := 5) ?hd (cs := #[.int .i64 0, .int .i64 0]) (t := 35) ?hr ?_; (case hd => rfl); (case hg => rfl); (case hr => first | (go_simp; done) | (go_simp; rfl)); intro gm hgx w6 hm hb6; have m0 := (blk_cell hm 0).trans rfl; have m1 := (blk_cell hm 1).trans rfl; have f0 := blk_frozen hm 0; have f1 := blk_frozen hm 1; have xm := Aside0.mk (show gx ≠ gm by rw [hgx]; exact Nat.ne_of_lt (World.block_lt_of_cell? _ _ (cb hb5 (cb hb4 d0)))); have wm := Aside0.mk (show w.heap.size ≤ gm by rw [hgx]; exact (below_step hb3 (below_step hb4 hb5)).size); clear hgx))
   have hb7 : Below w.heap.size w ((w6.setCell ⟨gm, 0, none⟩ (.int .i64 (Go.G880.impl_at (Go.G880.impl_MidI ⟨x0, x1⟩)).lo)).setCell ⟨gm, 1, none⟩ (.int .i64 (Go.G880.impl_at (Go.G880.impl_MidI ⟨x0, x1⟩)).hi)) := below_set (below_set (below_step hb3 (below_step hb4 (below_step hb5 hb6))) wm.out) wm.out
   have hx7 : (((w6.setCell ⟨gm, 0, none⟩ (.int .i64 (Go.G880.impl_at (Go.G880.impl_MidI ⟨x0, x1⟩)).lo)).setCell ⟨gm, 1, none⟩ (.int .i64 (Go.G880.impl_at (Go.G880.impl_MidI ⟨x0, x1⟩)).hi))).heap[gx]? = some (.cells #[.int .i64 x0, .int .i64 x1] 35 (0, 0)) := blk_far (blk_far (blk_below (blk_below (blk_below hx hb4) hb5) hb6) xm.out _) xm.out _
   have hm7 : (((w6.setCell ⟨gm, 0, none⟩ (.int .i64 (Go.G880.impl_at (Go.G880.impl_MidI ⟨x0, x1⟩)).lo)).setCell ⟨gm, 1, none⟩ (.int .i64 (Go.G880.impl_at (Go.G880.impl_MidI ⟨x0, x1⟩)).hi))).heap[gm]? = some (.cells #[.int .i64 (Go.G880.impl_at (Go.G880.impl_MidI ⟨x0, x1⟩)).lo, .int .i64 (Go.G880.impl_at (Go.G880.impl_MidI ⟨x0, x1⟩)).hi] 35 (0, 0)) := blk_put (cs := #[.int .i64 (Go.G880.impl_at (Go.G880.impl_MidI ⟨x0, x1⟩)).lo, .int .i64 0]) (blk_put (cs := #[.int .i64 0, .int .i64 0]) hm 0 _ rfl) 1 _ rfl
   generalize ((w6.setCell ⟨gm, 0, none⟩ (.int .i64 (Go.G880.impl_at (Go.G880.impl_MidI ⟨x0, x1⟩)).lo)).setCell ⟨gm, 1, none⟩ (.int .i64 (Go.G880.impl_at (Go.G880.impl_MidI ⟨x0, x1⟩)).hi)) = w7 at hb7 hx7 hm7 ⊢
   refine start_ (n := 20) (S := fun w' => w'.cell? ⟨g, 0, none⟩ = some (.slice pl.ha pl.hl pl.hc) ∧ w'.cell? ⟨g, 1, none⟩ = some (.slice (some A) ps.hl ps.hc) ∧ w'.cell? ⟨gx, 0, none⟩ = some (.int .i64 x0) ∧ w'.cell? ⟨gx, 1, none⟩ = some (.int .i64 x1) ∧ w'.cell? ⟨gm, 0, none⟩ = some (.int .i64 (Go.G880.impl_at (Go.G880.impl_MidI ⟨x0, x1⟩)).lo) ∧ w'.cell? ⟨gm, 1, none⟩ = some (.int .i64 (Go.G880.impl_at (Go.G880.impl_MidI ⟨x0, x1⟩)).hi)) (ds := []) #[false, false, false, false, false, false, false, false, false, false, false, false, false, false, false, false, false, false, false, false] (by kernel_rfl) rfl rfl (⟨cb (below_drew1 hb7) hc0, (cb (below_drew1 hb7) hc1).trans (by rw [hA]), (blk_cell hx7 0).trans rfl, (blk_cell hx7 1).trans rfl, (blk_cell hm7 0).trans rfl, (blk_cell hm7 1).trans rfl⟩) (fun hH => ?_)
   replace hb7 := below_drew1 hb7
   generalize w7.drew = wr at hb7 hH ⊢
   refine pure_ (i := 0) (N := (some 22)) (v := ?_) (a' := ?_) #[true, false, false, false, false, false, false, false, false, false, false, false, false, false, false, false, false, false, false, false] rfl rfl (by kernel_rfl) (fun _ _ _ h => h) (Or.inl ⟨by rfl, ?_⟩) ?_ ?_
   rotate_left
   ·intro w'
    go_simp
    with_reducible rfl
   rotate_left
   ·simp only [Act.put, List.setIfInBounds_toArray, List.set_cons_zero, List.set_cons_succ, i64_w, i32_w]
    rfl
   refine pure_ (i := 1) (N := (some 23)) (v := ?_) (a' := ?_) #[true, true, false, false, false, false, false, false, false, false, false, false, false, false, false, false, false, false, false, false] rfl rfl (by kernel_rfl) (fun _ _ _ h => h) (Or.inl ⟨by rfl, ?_⟩) ?_ ?_
   rotate_left
   ·intro w'
    go_simp
    with_reducible rfl
   rotate_left
   ·simp only [Act.put, List.setIfInBounds_toArray, List.set_cons_zero, List.set_cons_succ, i64_w, i32_w]
    rfl
   refine pure_ (i := 2) (N := (some 24)) (v := ?_) (a' := ?_) #[true, true, true, false, false, false, false, false, false, false, false, false, false, false, false, false, false, false, false, false] rfl rfl (by kernel_rfl) (fun _ _ _ h => h) (Or.inl ⟨by rfl, ?_⟩) ?_ ?_
   rotate_left
   ·intro w'
    go_simp
    with_reducible rfl
   rotate_left
   ·simp only [Act.put, List.setIfInBounds_toArray, List.set_cons_zero, List.set_cons_succ, i64_w, i32_w]
    rfl
   refine take_ (i := 3) (N := (some 25)) (v := ?_) (a' := ?_) #[true, true, true, true, false, false, false, false, false, false, false, false, false, false, false, false, false, false, false, false] rfl rfl (by kernel_rfl) (fun _ _ _ h => h) (Or.inl ⟨by rfl, ?_⟩) hH ?_ ?_
   rotate_left
   ·rintro w' ⟨s0, s1, s2, s3, s4, s5⟩
    go_simp
    with_reducible rfl
   rotate_left
   ·simp only [Act.put, List.setIfInBounds_toArray, List.set_cons_zero, List.set_cons_succ, i64_w, i32_w]
    rfl
   refine take_ (i := 4) (N := (some 26)) (v := ?_) (a' := ?_) #[true, true, true, true, true, false, false, false, false, false, false, false, false, false, false, false, false, false, false, false] rfl rfl (by kernel_rfl) (fun _ _ _ h => h) (Or.inl ⟨by rfl, ?_⟩) hH ?_ ?_
   rotate_left
   ·rintro w' ⟨s0, s1, s2, s3, s4, s5⟩
    go_simp
    with_reducible rfl
   rotate_left
   ·simp only [Act.put, List.setIfInBounds_toArray, List.set_cons_zero, List.set_cons_succ, i64_w, i32_w]
    rfl
   refine pure_ (i := 6) (N := (some 28)) (v := ?_) (a' := ?_) #[true, true, true, true, true, false, true, false, false, false, false, false, false, false, false, false, false, false, false, false] rfl rfl (by kernel_rfl) (fun _ _ _ h => h) (Or.inl ⟨by rfl, ?_⟩) ?_ ?_
   rotate_left
   ·intro w'
    go_simp
    with_reducible rfl
   rotate_left
   ·simp only [Act.put, List.setIfInBounds_toArray, List.set_cons_zero, List.set_cons_succ, i64_w, i32_w]
    rfl
   refine pure_ (i := 7) (N := (some 29)) (v := ?_) (a' := ?_) #[true, true, true, true, true, false, true, true, false, false, false, false, false, false, false, false, false, false, false, false] rfl rfl (by kernel_rfl) (fun _ _ _ h => h) (Or.inl ⟨by rfl, ?_⟩) ?_ ?_
   rotate_left
   ·intro w'
    go_simp
    with_reducible rfl
   rotate_left
   ·simp only [Act.put, List.setIfInBounds_toArray, List.set_cons_zero, List.set_cons_succ, i64_w, i32_w]
    rfl
   refine pure_ (i := 8) (N := (some 30)) (v := ?_) (a' := ?_) #[true, true, true, true, true, false, true, true, true, false, false, false, false, false, false, false, false, false, false, false] rfl rfl (by kernel_rfl) (fun _ _ _ h => h) (Or.inl ⟨by rfl, ?_⟩) ?_ ?_
   rotate_left
   ·intro w'
    go_simp
    with_reducible rfl
   rotate_left
   ·simp only [Act.put, List.setIfInBounds_toArray, List.set_cons_zero, List.set_cons_succ, i64_w, i32_w]
    rfl
   refine take_ (i := 9) (N := (some 31)) (v := ?_) (a' := ?_) #[true, true, true, true, true, false, true, true, true, true, false, false, false, false, false, false, false, false, false, false] rfl rfl (by kernel_rfl) (fun _ _ _ h => h) (Or.inl ⟨by rfl, ?_⟩) hH ?_ ?_
   rotate_left
   ·rintro w' ⟨s0, s1, s2, s3, s4, s5⟩
    go_simp
    with_reducible rfl
   rotate_left
   ·simp only [Act.put, List.setIfInBounds_toArray, List.set_cons_zero, List.set_cons_succ, i64_w, i32_w]
    rfl
   refine take_ (i := 10) (N := (some 32)) (v := ?_) (a' := ?_) #[true, true, true, true, true, false, true, true, true, true, true, false, false, false, false, false, false, false, false, false] rfl rfl (by kernel_rfl) (fun _ _ _ h => h) (Or.inl ⟨by rfl, ?_⟩) hH ?_ ?_
   rotate_left
   ·rintro w' ⟨s0, s1, s2, s3, s4, s5⟩
    go_simp
    with_reducible rfl
   rotate_left
   ·simp only [Act.put, List.setIfInBounds_toArray, List.set_cons_zero, List.set_cons_succ, i64_w, i32_w]
    rfl
   refine take_ (i := 12) (N := (some 34)) (v := ?_) (a' := ?_) #[true, true, true, true, true, false, true, true, true, true, true, false, true, false, false, false, false, false, false, false] rfl rfl (by kernel_rfl) (fun _ _ _ h => h) (Or.inl ⟨by rfl, ?_⟩) hH ?_ ?_
   rotate_left
   ·rintro w' ⟨s0, s1, s2, s3, s4, s5⟩
    go_simp
    with_reducible rfl
   rotate_left
   ·simp only [Act.put, List.setIfInBounds_toArray, List.set_cons_zero, List.set_cons_succ, i64_w, i32_w]
    rfl
   refine take_ (i := 13) (N := (some 35)) (v := ?_) (a' := ?_) #[true, true, true, true, true, false, true, true, true, true, true, false, true, true, false, false, false, false, false, false] rfl rfl (by kernel_rfl) (fun _ _ _ h => h) (Or.inl ⟨by rfl, ?_⟩) hH ?_ ?_
   rotate_left
   ·rintro w' ⟨s0, s1, s2, s3, s4, s5⟩
    go_simp
    with_reducible rfl
   rotate_left
   ·simp only [Act.put, List.setIfInBounds_toArray, List.set_cons_zero, List.set_cons_succ, i64_w, i32_w]
    rfl
   refine one_ (i := 5) (N := (some 27)) #[true, true, true, true, true, true, true, true, true, true, true, false, true, true, false, false, false, false, false, false] rfl rfl (by kernel_rfl) (by decide) (fun K hK => ?_)
   refine goes_ Try.func69 (by kernel_rfl) rfl #[.slice pl.ha pl.hl pl.hc, .agg #[.int .i64 ((Go.G880.impl_at (Go.G880.impl_MidI ⟨x0, x1⟩))).lo, .int .i64 ((Go.G880.impl_at (Go.G880.impl_MidI ⟨x0, x1⟩))).hi]] (by rfl) rfl rfl (by (try simp only [List.map_toArray, List.map_cons, List.map_nil]); first | done | rfl | (simp only [List.length_drop, List.length_take]; rfl)) ?_
   refine (polyAt_ (x := (Go.G880.impl_at (Go.G880.impl_MidI ⟨x0, x1⟩))) hl2 (hl.below hb7)).mono ?_
   rintro e w8 ⟨rfl, hb8⟩
   refine ⟨_, rfl, ?_⟩
   refine hK.out _ _ ⟨cb hb8 hH.1, cb hb8 hH.2.1, cb hb8 hH.2.2.1, cb hb8 hH.2.2.2.1, cb hb8 hH.2.2.2.2.1, cb hb8 hH.2.2.2.2.2⟩ (fun hH => ?_)
   clear hK K
   refine norm_ (a' := ?_) ?_ ?_
   rotate_left
   ·show Act.put _ (some 27) _ = _
    simp only [Act.put, List.setIfInBounds_toArray, List.set_cons_zero, List.set_cons_succ, i64_w, i32_w]
    rfl
   replace hb7 := below_step hb7 hb8
   clear hb8
   refine one_ (i := 11) (N := (some 33)) #[true, true, true, true, true, true, true, true, true, true, true, true, true, true, false, false, false, false, false, false] rfl rfl (by kernel_rfl) (by decide) (fun K hK => ?_)
   refine goes_ Try.func69 (by kernel_rfl) rfl #[.slice (some A) ps.hl ps.hc, .agg #[.int .i64 x0, .int .i64 x1]] (by rfl) rfl rfl (by (try simp only [List.map_toArray, List.map_cons, List.map_nil]); first | done | rfl | (simp only [List.length_drop, List.length_take]; rfl)) ?_
   refine (hA ▸ polyAt_ (x := ⟨x0, x1⟩) hs2 (hs.below hb7)).mono ?_
   rintro e w9 ⟨rfl, hb8⟩
   refine ⟨_, rfl, ?_⟩
   refine hK.out _ _ ⟨cb hb8 hH.1, cb hb8 hH.2.1, cb hb8 hH.2.2.1, cb hb8 hH.2.2.2.1, cb hb8 hH.2.2.2.2.1, cb hb8 hH.2.2.2.2.2⟩ (fun hH => ?_)
   clear hK K
   refine norm_ (a' := ?_) ?_ ?_
   rotate_left
   ·show Act.put _ (some 33) _ = _
    simp only [Act.put, List.setIfInBounds_toArray, List.set_cons_zero, List.set_cons_succ, i64_w, i32_w]
    rfl
   replace hb7 := below_step hb7 hb8
   clear hb8
   refine one_ (i := 14) (N := (some 36)) #[true, true, true, true, true, true, true, true, true, true, true, true, true, true, true, false, false, false, false, false] rfl rfl (by kernel_rfl) (by decide) (fun K hK => ?_)
   refine goes_ Try.func71 (by kernel_rfl) rfl #[.agg #[.int .i64 x0, .int .i64 x1], .agg #[.int .i64 ((Go.G880.impl_at (Go.G880.impl_MidI ⟨x0, x1⟩))).lo, .int .i64 ((Go.G880.impl_at (Go.G880.impl_MidI ⟨x0, x1⟩))).hi]] (by rfl) rfl rfl (by (try simp only [List.map_toArray, List.map_cons, List.map_nil]); first | done | rfl | (simp only [List.length_drop, List.length_take]; rfl)) ?_
   refine (subI_ ⟨x0, x1⟩ (Go.G880.impl_at (Go.G880.impl_MidI ⟨x0, x1⟩)) _).mono ?_
   rintro e w10 ⟨rfl, hb8⟩
   refine ⟨_, rfl, ?_⟩
   refine hK.out _ _ ⟨cb hb8 hH.1, cb hb8 hH.2.1, cb hb8 hH.2.2.1, cb hb8 hH.2.2.2.1, cb hb8 hH.2.2.2.2.1, cb hb8 hH.2.2.2.2.2⟩ (fun hH => ?_)
   clear hK K
   refine norm_ (a' := ?_) ?_ ?_
   rotate_left
   ·show Act.put _ (some 36) _ = _
    simp only [Act.put, List.setIfInBounds_toArray, List.set_cons_zero, List.set_cons_succ, i64_w, i32_w]
    rfl
   replace hb7 := below_step hb7 hb8
   clear hb8
   refine one_ (i := 15) (N := (some 37)) #[true, true, true, true, true, true, true, true, true, true, true, true, true, true, true, true, false, false, false, false] rfl rfl (by kernel_rfl) (by decide) (fun K hK => ?_)
   refine goes_ Try.func22 (by kernel_rfl) rfl #[.agg #[.int .i64 (Go.G880.impl_PolyAt s ⟨x0, x1⟩).lo, .int .i64 (Go.G880.impl_PolyAt s ⟨x0, x1⟩).hi], .agg #[.int .i64 (Go.G880.impl_SubI ⟨x0, x1⟩ (Go.G880.impl_at (Go.G880.impl_MidI ⟨x0, x1⟩))).lo, .int .i64 (Go.G880.impl_SubI ⟨x0, x1⟩ (Go.G880.impl_at (Go.G880.impl_MidI ⟨x0, x1⟩))).hi]] (by rfl) rfl rfl (by (try simp only [List.map_toArray, List.map_cons, List.map_nil]); first | done | rfl | (simp only [List.length_drop, List.length_take]; rfl)) ?_
   refine (mulI_ (Go.G880.impl_PolyAt s ⟨x0, x1⟩) (Go.G880.impl_SubI ⟨x0, x1⟩ (Go.G880.impl_at (Go.G880.impl_MidI ⟨x0, x1⟩))) _).mono ?_
   rintro e w11 ⟨rfl, hb8⟩
   refine ⟨_, rfl, ?_⟩
   refine hK.out _ _ ⟨cb hb8 hH.1, cb hb8 hH.2.1, cb hb8 hH.2.2.1, cb hb8 hH.2.2.2.1, cb hb8 hH.2.2.2.2.1, cb hb8 hH.2.2.2.2.2⟩ (fun hH => ?_)
   clear hK K
   refine norm_ (a' := ?_) ?_ ?_
   rotate_left
   ·show Act.put _ (some 37) _ = _
    simp only [Act.put, List.setIfInBounds_toArray, List.set_cons_zero, List.set_cons_succ, i64_w, i32_w]
    rfl
   replace hb7 := below_step hb7 hb8
   clear hb8
   refine one_ (i := 16) (N := (some 38)) #[true, true, true, true, true, true, true, true, true, true, true, true, true, true, true, true, true, false, false, false] rfl rfl (by kernel_rfl) (by decide) (fun K hK => ?_)
   refine goes_ Try.func21 (by kernel_rfl) rfl #[.agg #[.int .i64 (Go.G880.impl_PolyAt l (Go.G880.impl_at (Go.G880.impl_MidI ⟨x0, x1⟩))).lo, .int .i64 (Go.G880.impl_PolyAt l (Go.G880.impl_at (Go.G880.impl_MidI ⟨x0, x1⟩))).hi], .agg #[.int .i64 (Go.G880.impl_MulI (Go.G880.impl_PolyAt s ⟨x0, x1⟩) (Go.G880.impl_SubI ⟨x0, x1⟩ (Go.G880.impl_at (Go.G880.impl_MidI ⟨x0, x1⟩)))).lo, .int .i64 (Go.G880.impl_MulI (Go.G880.impl_PolyAt s ⟨x0, x1⟩) (Go.G880.impl_SubI ⟨x0, x1⟩ (Go.G880.impl_at (Go.G880.impl_MidI ⟨x0, x1⟩)))).hi]] (by rfl) rfl rfl (by (try simp only [List.map_toArray, List.map_cons, List.map_nil]); first | done | rfl | (simp only [List.length_drop, List.length_take]; rfl)) ?_
   refine (addI_ (Go.G880.impl_PolyAt l (Go.G880.impl_at (Go.G880.impl_MidI ⟨x0, x1⟩))) (Go.G880.impl_MulI (Go.G880.impl_PolyAt s ⟨x0, x1⟩) (Go.G880.impl_SubI ⟨x0, x1⟩ (Go.G880.impl_at (Go.G880.impl_MidI ⟨x0, x1⟩)))) _).mono ?_
   rintro e w12 ⟨rfl, hb8⟩
   refine ⟨_, rfl, ?_⟩
   refine hK.out _ _ ⟨cb hb8 hH.1, cb hb8 hH.2.1, cb hb8 hH.2.2.1, cb hb8 hH.2.2.2.1, cb hb8 hH.2.2.2.2.1, cb hb8 hH.2.2.2.2.2⟩ (fun hH => ?_)
   clear hK K
   refine norm_ (a' := ?_) ?_ ?_
   rotate_left
   ·show Act.put _ (some 38) _ = _
    simp only [Act.put, List.setIfInBounds_toArray, List.set_cons_zero, List.set_cons_succ, i64_w, i32_w]
    rfl
   replace hb7 := below_step hb7 hb8
   clear hb8
   refine one_ (i := 17) (N := (some 39)) #[true, true, true, true, true, true, true, true, true, true, true, true, true, true, true, true, true, true, false, false] rfl rfl (by kernel_rfl) (by decide) (fun K hK => ?_)
   refine goes_ Try.func68 (by kernel_rfl) rfl #[.agg #[.int .i64 (Go.G880.impl_AddI (Go.G880.impl_PolyAt l (Go.G880.impl_at (Go.G880.impl_MidI ⟨x0, x1⟩))) (Go.G880.impl_MulI (Go.G880.impl_PolyAt s ⟨x0, x1⟩) (Go.G880.impl_SubI ⟨x0, x1⟩ (Go.G880.impl_at (Go.G880.impl_MidI ⟨x0, x1⟩))))).lo, .int .i64 (Go.G880.impl_AddI (Go.G880.impl_PolyAt l (Go.G880.impl_at (Go.G880.impl_MidI ⟨x0, x1⟩))) (Go.G880.impl_MulI (Go.G880.impl_PolyAt s ⟨x0, x1⟩) (Go.G880.impl_SubI ⟨x0, x1⟩ (Go.G880.impl_at (Go.G880.impl_MidI ⟨x0, x1⟩))))).hi]] (by rfl) rfl rfl (by (try simp only [List.map_toArray, List.map_cons, List.map_nil]); first | done | rfl | (simp only [List.length_drop, List.length_take]; rfl)) ?_
   refine (signI_ (Go.G880.impl_AddI (Go.G880.impl_PolyAt l (Go.G880.impl_at (Go.G880.impl_MidI ⟨x0, x1⟩))) (Go.G880.impl_MulI (Go.G880.impl_PolyAt s ⟨x0, x1⟩) (Go.G880.impl_SubI ⟨x0, x1⟩ (Go.G880.impl_at (Go.G880.impl_MidI ⟨x0, x1⟩))))) _).mono ?_
   rintro e w13 ⟨rfl, hb8⟩
   refine ⟨_, rfl, ?_⟩
   refine hK.out _ _ ⟨cb hb8 hH.1, cb hb8 hH.2.1, cb hb8 hH.2.2.1, cb hb8 hH.2.2.2.1, cb hb8 hH.2.2.2.2.1, cb hb8 hH.2.2.2.2.2⟩ (fun hH => ?_)
   clear hK K
   refine norm_ (a' := ?_) ?_ ?_
   rotate_left
   ·show Act.put _ (some 39) _ = _
    simp only [Act.put, List.setIfInBounds_toArray, List.set_cons_zero, List.set_cons_succ, i64_w, i32_w]
    rfl
   replace hb7 := below_step hb7 hb8
   clear hb8
   refine pure_ (i := 18) (N := (some 40)) (v := ?_) (a' := ?_) #[true, true, true, true, true, true, true, true, true, true, true, true, true, true, true, true, true, true, true, false] rfl rfl (by kernel_rfl) (fun _ _ _ h => h) (Or.inl ⟨by rfl, ?_⟩) ?_ ?_
   rotate_left
   ·intro w'
    go_simp
    with_reducible rfl
   rotate_left
   ·simp only [Act.put, List.setIfInBounds_toArray, List.set_cons_zero, List.set_cons_succ, i64_w, i32_w]
    rfl
   refine pure_ (i := 19) (N := (some 4)) (v := ?_) (a' := ?_) #[true, true, true, true, true, true, true, true, true, true, true, true, true, true, true, true, true, true, true, true] rfl rfl (by kernel_rfl) (fun _ _ _ h => h) (Or.inl ⟨by rfl, ?_⟩) ?_ ?_
   rotate_left
   ·intro w'
    go_simp
    with_reducible rfl
   rotate_left
   ·simp only [Act.put, List.setIfInBounds_toArray, List.set_cons_zero, List.set_cons_succ, i64_w, i32_w]
    rfl
   refine done_ (by kernel_rfl) ?_
   go_wp2
   go_ret
   exact ⟨by simp only [rootless, hq, cond_false, h2]; rfl, by repeat (first | exact hb7 | apply below_drew1 | apply pw_below_drewN)⟩
end Go.Proofs.Ytmdicdkceekodaa.TX
/- The state of a search for roots: a block with four slices, two of which are read and two of which grow. -/
set_option linter.unusedVariables false
set_option linter.unusedSimpArgs false
namespace Go.Proofs.Ytmdicdkceekodaa.TX
open Go.RowKit Go.Proofs.YtmdicdkceekodaaW.PrintWords Go.Proofs.YtmdicdkceekodaaW.PrintLast Go.RX
inductive Qd : World → World → Prop
 | n {W V : World} (m : Nat) (h : Qd W V) : Qd W (V.drewN m)
 | d {W V : World} (h : Qd W V) : Qd W V.drew
 | a {W V : World} (o : Obj) (h : Qd W V) : Qd W (V.alloc o)
 | r (W : World) : Qd W W
theorem Qd.lie {W V : World} (q : Qd W V) : Below W.heap.size W V := by
 induction q with
 | n m _ ih => exact pw_below_drewN ih m
 | d _ ih => exact below_drew1 ih
 | a o _ ih => exact below_alloc ih o
 | r => exact Below.refl _ _
theorem qb {W V : World} (q : Qd W V := by repeat' (first | (with_reducible exact Qd.r _) | (with_reducible refine Qd.n _ ?_) | (with_reducible refine Qd.d ?_) | (with_reducible refine Qd.a _ ?_))) : Below W.heap.size W V := q.lie
def kIv : Kd Iv := Kd.iso (Kd.pair (Kd.int .i64) (Kd.int .i64)) (fun x : Iv => (x.lo, x.hi))
theorem kIv_mk (w : World) (base : Nat) (ok : Nat → Prop) (x : Iv) : kIv.M w base ok x [.int .i64 x.lo, .int .i64 x.hi] := ⟨[.int .i64 x.lo], [.int .i64 x.hi], rfl, rfl, rfl⟩
structure Fin (T : Nat) (w0 W : World) (g : Nat) (pl ps : Pl) (s : List Value) (vu vv : Value) (u v : List Iv) : Prop where
 blk : W.heap[g]? = some (.cells #[.slice pl.ha pl.hl pl.hc, .slice ps.ha ps.hl ps.hc, vu, vv] T (0, 0))
 u : kIv.R 35 W w0.heap.size (fun _ => True) vu u
 v : kIv.R 35 W w0.heap.size (fun _ => True) vv v
 uv : ∀ k, vu.ownBlock = some k → vv.ownBlock ≠ some k
 below : Below w0.heap.size w0 W
 sl : Rd ps s W
 sk : ∀ k, ps.adr = some k → k ≠ g ∧ vu.ownBlock ≠ some k ∧ vv.ownBlock ≠ some k
structure Fr (W W' : World) (g : Nat) (vu vv vu' vv' : Value) : Prop where
 size : W.heap.size ≤ W'.heap.size
 keep : ∀ i, i < W.heap.size → i ≠ g → some i ≠ vu.ownBlock → some i ≠ vv.ownBlock → W'.heap[i]? = W.heap[i]?
 u : ∀ k, vu'.ownBlock = some k → vu.ownBlock = some k ∨ W.heap.size ≤ k
 v : ∀ k, vv'.ownBlock = some k → vv.ownBlock = some k ∨ W.heap.size ≤ k
theorem Fr.of_below {W W' : World} {g : Nat} {vu vv : Value} (h : Below W.heap.size W W') : Fr W W' g vu vv vu vv := ⟨h.size, fun i hi _ _ _ => h.block i hi, fun _ h => .inl h, fun _ h => .inl h⟩
theorem Fr.trans {W W1 W2 : World} {g : Nat} {vu vv vu1 vv1 vu2 vv2 : Value} (h : Fr W W1 g vu vv vu1 vv1) (k : Fr W1 W2 g vu1 vv1 vu2 vv2) : Fr W W2 g vu vv vu2 vv2 := by
 refine ⟨Nat.le_trans h.size k.size, fun i hi hg hu hv => ?_, fun b hb => ?_, fun b hb => ?_⟩
 ·refine (k.keep i (Nat.lt_of_lt_of_le hi h.size) hg (fun e => ?_) (fun e => ?_)).trans (h.keep i hi hg hu hv)
  ·rcases h.u i e.symm with h1 | h1
   ·exact hu h1.symm
   ·omega
  ·rcases h.v i e.symm with h1 | h1
   ·exact hv h1.symm
   ·omega
 ·rcases k.u b hb with h1 | h1
  ·exact h.u b h1
  ·exact .inr (Nat.le_trans h.size h1)
 ·rcases k.v b hb with h1 | h1
  ·exact h.v b h1
  ·exact .inr (Nat.le_trans h.size h1)
theorem Fr.old {w W W' : World} {g gx : Nat} {vu vv vu' vv' : Value} {o : Obj} (h : Fr W W' g vu vv vu' vv') (hg : g < w.heap.size) (hx : w.heap.size ≤ gx) (ou : ∀ k, vu.ownBlock = some k → k < w.heap.size) (ov : ∀ k, vv.ownBlock = some k → k < w.heap.size)
  (hb : W.heap[gx]? = some o) : W'.heap[gx]? = some o :=
 (h.keep gx (blk_lt hb) (by omega) (fun e => by have := ou gx e.symm; omega) (fun e => by have := ov gx e.symm; omega)).trans hb
theorem own_lt_ {W : World} {b : Nat} {v : Value} {xs : List Iv} {ok : Nat → Prop} (h : kIv.R 35 W b ok v xs) {k : Nat} (hk : v.ownBlock = some k) : k < W.heap.size := by
 have := (Kd.R_bound h).1 k hk
 exact this.2.2.1
section
variable {T : Nat} {w0 W : World} {g : Nat} {pl ps : Pl} {s : List Value} {vu vv : Value} {u v : List Iv}
theorem Fin.lt (h : Fin T w0 W g pl ps s vu vv u v) : g < W.heap.size := blk_lt h.blk
theorem Fin.gu (h : Fin T w0 W g pl ps s vu vv u v) (hT : 35 ≠ T) : some g ≠ vu.ownBlock := Kd.R_ne h.u h.blk hT
theorem Fin.gv (h : Fin T w0 W g pl ps s vu vv u v) (hT : 35 ≠ T) : some g ≠ vv.ownBlock := Kd.R_ne h.v h.blk hT
theorem Fin.move (h : Fin T w0 W g pl ps s vu vv u v) {W' : World} (hb : Below W.heap.size W W') : Fin T w0 W' g pl ps s vu vv u v :=
 ⟨blk_below h.blk hb, Kd.R_below h.u hb, Kd.R_below h.v hb, h.uv, below_step h.below hb, h.sl.below hb, h.sk⟩
theorem Fin.drew (h : Fin T w0 W g pl ps s vu vv u v) : Fin T w0 W.drew g pl ps s vu vv u v := h.move (below_drew1 (Below.refl _ _))
theorem Fin.putU (h : Fin T w0 W g pl ps s vu vv u v) (hT : 35 ≠ T) (hg : w0.heap.size ≤ g) {w1 : World} {v1 : Value} {p : Iv} (hr : kIv.R 35 w1 w0.heap.size (fun _ => True) v1 (u ++ [p])) (hb : Below w0.heap.size w0 w1)
  (hgr : W.grownBy w1 vu.ownBlock) (hat : v1.ownBlock = vu.ownBlock ∨ ∃ b, v1.ownBlock = some b ∧ W.heap.size ≤ b) :
  Fin T w0 (w1.setCell ⟨g, 2, none⟩ v1) g pl ps s v1 vv (u ++ [p]) v ∧ Fr W (w1.setCell ⟨g, 2, none⟩ v1) g vu vv v1 vv := by
 have hblk : w1.heap[g]? = some (.cells #[.slice pl.ha pl.hl pl.hc, .slice ps.ha ps.hl ps.hc, vu, vv] T (0, 0)) := (hgr.block g h.lt (h.gu hT)).trans h.blk
 have hne : some g ≠ v1.ownBlock := Kd.R_ne hr hblk hT
 have hvo : ∀ k, vv.ownBlock = some k → k < W.heap.size ∧ some k ≠ vu.ownBlock := fun k hk => ⟨own_lt_ h.v hk, fun e => h.uv k e.symm hk⟩
 have hv1 : kIv.R 35 w1 w0.heap.size (fun k => vv.ownBlock = some k) vv v := by
  have h1 : kIv.R 35 W w0.heap.size (fun k => vv.ownBlock = some k) vv v := ⟨fun k hk => hk, h.v.2⟩
  exact Kd.R_grown h1 hgr fun k hk => (hvo k hk).2
 refine ⟨⟨blk_put (cs := #[.slice pl.ha pl.hl pl.hc, .slice ps.ha ps.hl ps.hc, vu, vv]) hblk 2 _ rfl, ?_, ?_, ?_, below_set hb hg, ?_, ?_⟩, ⟨?_, ?_, ?_, fun _ hk => .inl hk⟩⟩
 ·exact Kd.R_mono (Kd.R_far (p := ⟨g, 2, none⟩) (show kIv.R 35 w1 w0.heap.size (fun k => v1.ownBlock = some k) v1 (u ++ [p]) from ⟨fun k hk => hk, hr.2⟩) (fun k hk e => hne (by rw [hk]; exact congrArg some e.symm)) _) fun _ _ => trivial
 ·exact Kd.R_mono (Kd.R_far (p := ⟨g, 2, none⟩) hv1 (fun k hk e => (h.gv hT) (by rw [hk]; exact congrArg some e.symm)) _) fun _ _ => trivial
 ·intro k hk hv
  rcases hat with e | ⟨b, e, hle⟩
  ·exact h.uv k (e ▸ hk) hv
  ·rw [e] at hk
   cases hk
   have := (hvo k hv).1
   omega
 ·refine Lst.mono h.sl fun k hk => ?_
  obtain ⟨k1, k2, k3⟩ := h.sk k hk
  exact (Below.heap_setCell w1 ⟨g, 2, none⟩ v1 k k1).trans (hgr.block k (h.sl.low k hk) (fun e => k2 e.symm))
 ·intro k hk
  obtain ⟨k1, k2, k3⟩ := h.sk k hk
  refine ⟨k1, fun e1 => ?_, k3⟩
  rcases hat with e | ⟨b, e, hle⟩
  ·exact k2 (e ▸ e1)
  ·rw [e] at e1
   cases e1
   have := h.sl.low _ hk
   omega
 ·simpa [World.setCell] using hgr.size
 ·intro i hi hig hiu hiv
  exact (Below.heap_setCell w1 ⟨g, 2, none⟩ v1 i hig).trans (hgr.block i hi hiu)
 ·intro k hk
  rcases hat with e | ⟨b, e, hle⟩
  ·exact .inl (e ▸ hk)
  ·rw [e] at hk
   cases hk
   exact .inr hle
theorem Fin.putV (h : Fin T w0 W g pl ps s vu vv u v) (hT : 35 ≠ T) (hg : w0.heap.size ≤ g) {w1 : World} {v1 : Value} {p : Iv} (hr : kIv.R 35 w1 w0.heap.size (fun _ => True) v1 (v ++ [p])) (hb : Below w0.heap.size w0 w1)
  (hgr : W.grownBy w1 vv.ownBlock) (hat : v1.ownBlock = vv.ownBlock ∨ ∃ b, v1.ownBlock = some b ∧ W.heap.size ≤ b) :
  Fin T w0 (w1.setCell ⟨g, 3, none⟩ v1) g pl ps s vu v1 u (v ++ [p]) ∧ Fr W (w1.setCell ⟨g, 3, none⟩ v1) g vu vv vu v1 := by
 have hblk : w1.heap[g]? = some (.cells #[.slice pl.ha pl.hl pl.hc, .slice ps.ha ps.hl ps.hc, vu, vv] T (0, 0)) := (hgr.block g h.lt (h.gv hT)).trans h.blk
 have hne : some g ≠ v1.ownBlock := Kd.R_ne hr hblk hT
 have huo : ∀ k, vu.ownBlock = some k → k < W.heap.size ∧ some k ≠ vv.ownBlock := fun k hk => ⟨own_lt_ h.u hk, fun e => h.uv k hk e.symm⟩
 have hu1 : kIv.R 35 w1 w0.heap.size (fun k => vu.ownBlock = some k) vu u := by
  have h1 : kIv.R 35 W w0.heap.size (fun k => vu.ownBlock = some k) vu u := ⟨fun k hk => hk, h.u.2⟩
  exact Kd.R_grown h1 hgr fun k hk => (huo k hk).2
 refine ⟨⟨blk_put (cs := #[.slice pl.ha pl.hl pl.hc, .slice ps.ha ps.hl ps.hc, vu, vv]) hblk 3 _ rfl, ?_, ?_, ?_, below_set hb hg, ?_, ?_⟩, ⟨?_, ?_, fun _ hk => .inl hk, ?_⟩⟩
 ·exact Kd.R_mono (Kd.R_far (p := ⟨g, 3, none⟩) hu1 (fun k hk e => (h.gu hT) (by rw [hk]; exact congrArg some e.symm)) _) fun _ _ => trivial
 ·exact Kd.R_mono (Kd.R_far (p := ⟨g, 3, none⟩) (show kIv.R 35 w1 w0.heap.size (fun k => v1.ownBlock = some k) v1 (v ++ [p]) from ⟨fun k hk => hk, hr.2⟩) (fun k hk e => hne (by rw [hk]; exact congrArg some e.symm)) _) fun _ _ => trivial
 ·intro k hk hv
  rcases hat with e | ⟨b, e, hle⟩
  ·exact h.uv k hk (e ▸ hv)
  ·rw [e] at hv
   cases hv
   have := (huo k hk).1
   omega
 ·refine Lst.mono h.sl fun k hk => ?_
  obtain ⟨k1, k2, k3⟩ := h.sk k hk
  exact (Below.heap_setCell w1 ⟨g, 3, none⟩ v1 k k1).trans (hgr.block k (h.sl.low k hk) (fun e => k3 e.symm))
 ·intro k hk
  obtain ⟨k1, k2, k3⟩ := h.sk k hk
  refine ⟨k1, k2, fun e1 => ?_⟩
  rcases hat with e | ⟨b, e, hle⟩
  ·exact k3 (e ▸ e1)
  ·rw [e] at e1
   cases e1
   have := h.sl.low _ hk
   omega
 ·simpa [World.setCell] using hgr.size
 ·intro i hi hig hiu hiv
  exact (Below.heap_setCell w1 ⟨g, 3, none⟩ v1 i hig).trans (hgr.block i hi hiv)
 ·intro k hk
  rcases hat with e | ⟨b, e, hle⟩
  ·exact .inl (e ▸ hk)
  ·rw [e] at hk
   cases hk
   exact .inr hle
end
def srch (l s : List Value) : Nat → Iv → Int → List Iv → List Iv → Bool × List Iv × List Iv
 | 0, _, _, u, v => (false, u, v)
 | k + 1, x, d, u, v =>
  bif rootless l s x then (true, u, v) else
  bif Go.G880.impl_UniqueRoot l x then (decide ((u ++ [x]).length + v.length ≤ 64), u ++ [x], v) else
  bif d == 0 || decide (Go.G880.impl_WidthI x < 2) then (decide (u.length + (v ++ [x]).length ≤ 64), u, v ++ [x]) else
  bif (srch l s k ⟨x.lo, Go.G880.impl_MidI x⟩ (d - 1) u v).1 then
   srch l s k ⟨Go.G880.impl_MidI x, x.hi⟩ (d - 1) (srch l s k ⟨x.lo, Go.G880.impl_MidI x⟩ (d - 1) u v).2.1 (srch l s k ⟨x.lo, Go.G880.impl_MidI x⟩ (d - 1) u v).2.2
  else (false, (srch l s k ⟨x.lo, Go.G880.impl_MidI x⟩ (d - 1) u v).2.1, (srch l s k ⟨x.lo, Go.G880.impl_MidI x⟩ (d - 1) u v).2.2)
theorem srch_few (l s : List Value) : ∀ k x d u v, u.length + v.length ≤ 64 → ((srch l s k x d u v).1 = true → (srch l s k x d u v).2.1.length + (srch l s k x d u v).2.2.length ≤ 64) := by
 intro k
 induction k with
 | zero => intro x d u v _ h; simp [srch] at h
 | succ k ih =>
  intro x d u v h0
  unfold srch
  cases rootless l s x with
  | true => intro _; exact h0
  | false =>
  cases Go.G880.impl_UniqueRoot l x with
  | true => intro h; exact of_decide_eq_true h
  | false =>
  cases d == 0 || decide (Go.G880.impl_WidthI x < 2) with
  | true => intro h; exact of_decide_eq_true h
  | false =>
   simp only [cond_false]
   cases hq : (srch l s k ⟨x.lo, Go.G880.impl_MidI x⟩ (d - 1) u v).1 with
   | true => exact ih _ _ _ _ (ih _ _ _ _ h0 hq)
   | false => intro h; cases h
end Go.Proofs.Ytmdicdkceekodaa.TX
