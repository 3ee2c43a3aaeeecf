/- The values by the middle: the machine walks it. -/
import Derived.Test.YtmdicdkceekodaaRT4
set_option linter.unusedVariables false
set_option linter.unusedSimpArgs false
namespace Go.Proofs.Ytmdicdkceekodaa.TX
open Go.RowKit Go.Proofs.YtmdicdkceekodaaW.PrintWords Go.Proofs.YtmdicdkceekodaaW.PrintLast Go.RX
theorem l09At_ {l : List Value} {x : Iv} (hl : 1 ≤ l.length ∧ l.length ≤ 1048576) {w : World} {p : Pl} (hL : Rd p l w) :
  Calls Try.prog 49 #[.slice p.ha p.hl p.hc, .agg #[.int .i64 x.lo, .int .i64 x.hi]] w fun e w' => e = .returned (.agg #[.int .i64 (Go.G880.spec_l09At l x).lo, .int .i64 (Go.G880.spec_l09At l x).hi]) ∧ Below w.heap.size w w' :=
 read2 (spec_l09At.gives l x (decide_eq_true (by omega))) rfl hL
theorem l09Sign_ (a : Iv) (w : World) : Calls Try.prog 48 #[.agg #[.int .i64 a.lo, .int .i64 a.hi]] w fun e w' => e = .returned (.int .i64 (Go.G880.spec_l09Sign a)) ∧ Below w.heap.size w w' := (spec_l09Sign.gives a).calls rfl rfl w
theorem l04Whole_ (w : World) : Calls Try.prog 32 #[] w fun e w' => e = .returned (.agg #[.int .i64 Go.G880.spec_l04Whole.lo, .int .i64 Go.G880.spec_l04Whole.hi]) ∧ Below w.heap.size w w' := (spec_l04Whole.gives).calls rfl rfl w
theorem l08At_ (n : Int) (w : World) : Calls Try.prog 65 #[.int .i64 n] w fun e w' => e = .returned (.agg #[.int .i64 (Go.G880.spec_l08At n).lo, .int .i64 (Go.G880.spec_l08At n).hi]) ∧ Below w.heap.size w w' := (spec_l08At.gives n).calls rfl rfl w
theorem ssubI_ (a b : Iv) (w : World) : Calls Try.prog 66 #[.agg #[.int .i64 a.lo, .int .i64 a.hi], .agg #[.int .i64 b.lo, .int .i64 b.hi]] w fun e w' => e = .returned (.agg #[.int .i64 (Go.G880.spec_SubI a b).lo, .int .i64 (Go.G880.spec_SubI a b).hi]) ∧ Below w.heap.size w w' := (spec_SubI.gives a b).calls rfl rfl w
theorem smulI_ (a b : Iv) (w : World) : Calls Try.prog 18 #[.agg #[.int .i64 a.lo, .int .i64 a.hi], .agg #[.int .i64 b.lo, .int .i64 b.hi]] w fun e w' => e = .returned (.agg #[.int .i64 (Go.G880.spec_MulI a b).lo, .int .i64 (Go.G880.spec_MulI a b).hi]) ∧ Below w.heap.size w w' := (spec_MulI.gives a b).calls rfl rfl w
theorem saddI_ (a b : Iv) (w : World) : Calls Try.prog 17 #[.agg #[.int .i64 a.lo, .int .i64 a.hi], .agg #[.int .i64 b.lo, .int .i64 b.hi]] w fun e w' => e = .returned (.agg #[.int .i64 (Go.G880.spec_AddI a b).lo, .int .i64 (Go.G880.spec_AddI a b).hi]) ∧ Below w.heap.size w w' := (spec_AddI.gives a b).calls rfl rfl w
theorem l09Unique_ {l s : List Value} {x : Iv} (hl : 1 ≤ l.length ∧ l.length ≤ 1048576) (hs : 1 ≤ s.length ∧ s.length ≤ 1048576) {w : World} {p q : Pl} (hL : Rd p l w) (hS : Rd q s w) :
  Calls Try.prog 51 #[.slice p.ha p.hl p.hc, .slice q.ha q.hl q.hc, .agg #[.int .i64 x.lo, .int .i64 x.hi]] w fun e w' => e = .returned (.bool (Go.G880.spec_l09Unique l s x)) ∧ Below w.heap.size w w' :=
 read3 (spec_l09Unique.gives l s x (decide_eq_true (by omega))) rfl hL hS
def mid (x : Iv) : Int := (wrap64 (x.lo + x.hi)) / 2
def mean (l s : List Value) (x : Iv) : Iv := bif s.isEmpty then Go.G880.spec_l04Whole else
 Go.G880.spec_AddI (Go.G880.spec_l09At l (Go.G880.spec_l08At (mid x))) (Go.G880.spec_MulI (Go.G880.spec_l09At s x) (Go.G880.spec_SubI x (Go.G880.spec_l08At (mid x))))
set_option maxHeartbeats 8000000 in
set_option maxRecDepth 100000 in
theorem mean_ (w : World) (g : Nat) (pl ps : Pl) (l s : List Value) (x0 x1 : Int) (vu vv : Value)
  (hb : w.heap[g]? = some (.cells #[.slice pl.ha pl.hl pl.hc, .slice ps.ha ps.hl ps.hc, vu, vv] 47 (0, 0)))
  (hl : Rd pl l w) (hs : Rd ps s w) (hl2 : 1 ≤ l.length ∧ l.length ≤ 1048576) (hs2 : s.length ≤ 1048576) :
  Calls Try.prog 50 #[.pointer (some ⟨g, 0, none⟩), .agg #[.int .i64 x0, .int .i64 x1]] w fun e w' => e = .returned (.agg #[.int .i64 (mean l s ⟨x0, x1⟩).lo, .int .i64 (mean l s ⟨x0, x1⟩).hi]) ∧ Below w.heap.size w w' := by
 have hu35 := Try.underlying35
 have hu47 := Try.underlying47
 have hc0 : w.cell? ⟨g, 0, none⟩ = some (.slice pl.ha pl.hl pl.hc) := (blk_cell hb 0).trans rfl
 have hc1 : w.cell? ⟨g, 1, none⟩ = some (.slice ps.ha ps.hl ps.hc) := (blk_cell hb 1).trans rfl
 have hsl := Aside0.mk hs.len
 cases he : s.isEmpty with
 | true =>
  have h0 : ps.hl = 0 := by rw [hsl.out]; simpa using he
  rw [h0] at hc1
  go_enter Try.func50, Try.ntmps50
  go_wp2_with (first | ((with_reducible refine gate_dst (N := 3) rfl ?_); refine box_event ?hg (N := 3) ?hd (cs := #[.int .i64 x0, .int .i64 x1]) (t := 35) ?hr ?_; (case hd => rfl); (case hg => rfl); (case hr => first | (go_simp; done) | (go_simp; rfl)); intro gx hgx w1 hx hb1; skip; clear hgx) | ((with_reducible refine gate_dst (N := 4) rfl ?_); refine box_event ?hg (N := 4) ?hd (cs := #[.int .i64 0, .int .i64 0]) (t := 35) ?hr ?_; (case hd => rfl); (case hg => rfl); (case hr => first | (go_simp; done) | (go_simp; rfl)); intro gr hgx w2 hr hb2; have wr := Aside0.mk (show w.heap.size ≤ gr by rw [hgx]; exact (below_step hb1 qb).size); have ngr := Aside0.mk (show g ≠ gr by rw [hgx]; exact Nat.ne_of_lt (blk_lt (blk_below hb (below_step hb1 qb)))); have c1 := (cb (below_step hb1 (below_step qb hb2)) hc1); have r0 := (blk_cell hr 0).trans rfl; have r1 := (blk_cell hr 1).trans rfl; have f0 := blk_frozen hr 0; have f1 := blk_frozen hr 1; clear hgx) | ((with_reducible refine gate_callee (f := 32) rfl ?_); refine goesL_ (some 12) rfl rfl Try.func32 (by kernel_rfl) rfl #[] rfl (by (try simp only [List.map_toArray, List.map_cons, List.map_nil]); first | done | rfl | (simp only [List.length_drop, List.length_take]; rfl)) ?_; refine (l04Whole_ _).mono ?_; rintro e w3 ⟨rfl, hb3⟩; refine ⟨_, rfl, ?_⟩; replace hr := blk_below hr (below_step qb hb3); have r0 := (blk_cell hr 0).trans rfl; have r1 := (blk_cell hr 1).trans rfl; have f0 := blk_frozen hr 0; have f1 := blk_frozen hr 1))
  refine bodyPost_ret (results_cell_row rfl _ _ gr 35 #[.int .i64 Go.G880.spec_l04Whole.lo, .int .i64 Go.G880.spec_l04Whole.hi] (0, 0) _ rfl (blk_put (cs := #[.int .i64 Go.G880.spec_l04Whole.lo, .int .i64 0]) (blk_put (cs := #[.int .i64 0, .int .i64 0]) hr 0 _ rfl) 1 _ rfl) hu35 rfl (by kernel_rfl)) rfl ?_
  exact ⟨by simp only [mean, he, cond_true], below_set (below_set (below_step hb1 (below_step qb (below_step hb2 (below_step qb hb3)))) wr.out) wr.out⟩
 | false =>
  have hs3 : 1 ≤ s.length ∧ s.length ≤ 1048576 := by
   refine ⟨?_, hs2⟩
   cases s with
   | nil => simp at he
   | cons a r => simp
  have h0 : ((ps.hl : Int) == 0) = false := by rw [hsl.out]; exact beq_eq_false_iff_ne.2 (by omega)
  go_enter Try.func50, Try.ntmps50
  go_wp2_with (first | ((with_reducible refine gate_dst (N := 3) rfl ?_); refine box_event ?hg (N := 3) ?hd (cs := #[.int .i64 x0, .int .i64 x1]) (t := 35) ?hr ?_; (case hd => rfl); (case hg => rfl); (case hr => first | (go_simp; done) | (go_simp; rfl)); intro gx hgx w1 hx hb1; skip; clear hgx) | ((with_reducible refine gate_dst (N := 4) rfl ?_); refine box_event ?hg (N := 4) ?hd (cs := #[.int .i64 0, .int .i64 0]) (t := 35) ?hr ?_; (case hd => rfl); (case hg => rfl); (case hr => first | (go_simp; done) | (go_simp; rfl)); intro gr hgx w2 hr hb2; have wr := Aside0.mk (show w.heap.size ≤ gr by rw [hgx]; exact (below_step hb1 qb).size); have ngr := Aside0.mk (show g ≠ gr by rw [hgx]; exact Nat.ne_of_lt (blk_lt (blk_below hb (below_step hb1 qb)))); have c1 := (cb (below_step hb1 (below_step qb hb2)) hc1); replace hx := blk_below hx (below_step qb hb2); have e0 := (blk_cell hx 0).trans rfl; have e1 := (blk_cell hx 1).trans rfl; clear hgx) | ((with_reducible refine gate_callee (f := 65) rfl ?_); refine goesL_ (some 19) rfl rfl Try.func65 (by kernel_rfl) rfl #[.int .i64 (mid ⟨x0, x1⟩)] rfl (by (try simp only [List.map_toArray, List.map_cons, List.map_nil]); first | done | rfl | (simp only [List.length_drop, List.length_take]; rfl)) ?_; refine (l08At_ _ _).mono ?_; rintro e w5 ⟨rfl, hb3⟩; refine ⟨_, rfl, ?_⟩) | ((with_reducible refine gate_dst (N := 5) rfl ?_); refine box_event ?hg (N := 5) ?hd (cs := #[.int .i64 0, .int .i64 0]) (t := 35) ?hr ?_; (case hd => rfl); (case hg => rfl); (case hr => first | (go_simp; done) | (go_simp; rfl)); intro gm hgx w6 hm hb6; have wm := Aside0.mk (show w.heap.size ≤ gm by rw [hgx]; exact (below_step hb1 (below_step qb (below_step hb2 (below_step qb hb3)))).size); have xm := Aside0.mk (show gx ≠ gm by rw [hgx]; exact Nat.ne_of_lt (blk_lt (blk_below hx (below_step qb hb3)))); have rm := Aside0.mk (show gr ≠ gm by rw [hgx]; exact Nat.ne_of_lt (blk_lt (blk_below hr (below_step qb hb3)))); have m0 := (blk_cell hm 0).trans rfl; have m1 := (blk_cell hm 1).trans rfl; have f0 := blk_frozen hm 0; have f1 := blk_frozen hm 1; clear hgx))
  have hbb := below_step hb1 (below_step qb (below_step hb2 (below_step qb (below_step hb3 (below_step qb hb6)))))
  have hb7 : Below w.heap.size w ((w6.setCell ⟨gm, 0, none⟩ (.int .i64 (Go.G880.spec_l08At (mid ⟨x0, x1⟩)).lo)).setCell ⟨gm, 1, none⟩ (.int .i64 (Go.G880.spec_l08At (mid ⟨x0, x1⟩)).hi)) := below_set (below_set hbb wm.out) wm.out
  have hx7 : (((w6.setCell ⟨gm, 0, none⟩ (.int .i64 (Go.G880.spec_l08At (mid ⟨x0, x1⟩)).lo)).setCell ⟨gm, 1, none⟩ (.int .i64 (Go.G880.spec_l08At (mid ⟨x0, x1⟩)).hi))).heap[gx]? = some (.cells #[.int .i64 x0, .int .i64 x1] 35 (0, 0)) := blk_far (blk_far (blk_below hx (below_step qb (below_step hb3 (below_step qb hb6)))) xm.out _) xm.out _
  have hr7 : (((w6.setCell ⟨gm, 0, none⟩ (.int .i64 (Go.G880.spec_l08At (mid ⟨x0, x1⟩)).lo)).setCell ⟨gm, 1, none⟩ (.int .i64 (Go.G880.spec_l08At (mid ⟨x0, x1⟩)).hi))).heap[gr]? = some (.cells #[.int .i64 0, .int .i64 0] 35 (0, 0)) := blk_far (blk_far (blk_below hr (below_step qb (below_step hb3 (below_step qb hb6)))) rm.out _) rm.out _
  have hm7 : (((w6.setCell ⟨gm, 0, none⟩ (.int .i64 (Go.G880.spec_l08At (mid ⟨x0, x1⟩)).lo)).setCell ⟨gm, 1, none⟩ (.int .i64 (Go.G880.spec_l08At (mid ⟨x0, x1⟩)).hi))).heap[gm]? = some (.cells #[.int .i64 (Go.G880.spec_l08At (mid ⟨x0, x1⟩)).lo, .int .i64 (Go.G880.spec_l08At (mid ⟨x0, x1⟩)).hi] 35 (0, 0)) := blk_put (cs := #[.int .i64 (Go.G880.spec_l08At (mid ⟨x0, x1⟩)).lo, .int .i64 0]) (blk_put (cs := #[.int .i64 0, .int .i64 0]) hm 0 _ rfl) 1 _ rfl
  generalize ((w6.setCell ⟨gm, 0, none⟩ (.int .i64 (Go.G880.spec_l08At (mid ⟨x0, x1⟩)).lo)).setCell ⟨gm, 1, none⟩ (.int .i64 (Go.G880.spec_l08At (mid ⟨x0, x1⟩)).hi)) = w7 at hb7 hx7 hm7 hr7 ⊢
  refine start_ (n := 18) (S := fun w' => w'.cell? ⟨g, 0, none⟩ = some (.slice pl.ha pl.hl pl.hc) ∧ w'.cell? ⟨g, 1, none⟩ = some (.slice ps.ha ps.hl ps.hc) ∧ w'.cell? ⟨gx, 0, none⟩ = some (.int .i64 x0) ∧ w'.cell? ⟨gx, 1, none⟩ = some (.int .i64 x1) ∧ w'.cell? ⟨gm, 0, none⟩ = some (.int .i64 (Go.G880.spec_l08At (mid ⟨x0, x1⟩)).lo) ∧ w'.cell? ⟨gm, 1, none⟩ = some (.int .i64 (Go.G880.spec_l08At (mid ⟨x0, x1⟩)).hi)) (ds := [17]) #[false, false, false, false, false, false, false, false, false, false, false, false, false, false, false, false, false, false] (by kernel_rfl) rfl rfl (⟨cb (below_drew1 hb7) hc0, cb (below_drew1 hb7) hc1, (blk_cell hx7 0).trans rfl, (blk_cell hx7 1).trans rfl, (blk_cell hm7 0).trans rfl, (blk_cell hm7 1).trans rfl⟩) (fun hH => ?_)
  replace hb7 := below_drew1 hb7
  replace hr7 := blk_drew hr7
  generalize w7.drew = wz at hb7 hr7 hH ⊢
  refine pure_ (i := 0) (N := (some 20)) (v := ?_) (a' := ?_) #[true, false, false, false, false, false, false, false, false, false, false, false, false, false, false, false, false, false] rfl rfl (by kernel_rfl) (fun _ _ _ h => h) (Or.inl ⟨by rfl, ?_⟩) ?_ ?_
  rotate_left
  ·intro w'
   go_simp
   with_reducible rfl
  rotate_left
  ·simp only [Act.put, List.setIfInBounds_toArray, List.set_cons_zero, List.set_cons_succ, i64_w, i32_w]
   rfl
  refine pure_ (i := 1) (N := (some 21)) (v := ?_) (a' := ?_) #[true, true, false, false, false, false, false, false, false, false, false, false, false, false, false, false, false, false] rfl rfl (by kernel_rfl) (fun _ _ _ h => h) (Or.inl ⟨by rfl, ?_⟩) ?_ ?_
  rotate_left
  ·intro w'
   go_simp
   with_reducible rfl
  rotate_left
  ·simp only [Act.put, List.setIfInBounds_toArray, List.set_cons_zero, List.set_cons_succ, i64_w, i32_w]
   rfl
  refine pure_ (i := 2) (N := (some 22)) (v := ?_) (a' := ?_) #[true, true, true, false, false, false, false, false, false, false, false, false, false, false, false, false, false, false] rfl rfl (by kernel_rfl) (fun _ _ _ h => h) (Or.inl ⟨by rfl, ?_⟩) ?_ ?_
  rotate_left
  ·intro w'
   go_simp
   with_reducible rfl
  rotate_left
  ·simp only [Act.put, List.setIfInBounds_toArray, List.set_cons_zero, List.set_cons_succ, i64_w, i32_w]
   rfl
  refine take_ (i := 3) (N := (some 23)) (v := ?_) (a' := ?_) #[true, true, true, true, false, false, false, false, false, false, false, false, false, false, false, false, false, false] rfl rfl (by kernel_rfl) (fun _ _ _ h => h) (Or.inl ⟨by rfl, ?_⟩) hH ?_ ?_
  rotate_left
  ·rintro w' ⟨s0, s1, s2, s3, s4, s5⟩
   go_simp
   with_reducible rfl
  rotate_left
  ·simp only [Act.put, List.setIfInBounds_toArray, List.set_cons_zero, List.set_cons_succ, i64_w, i32_w]
   rfl
  refine take_ (i := 4) (N := (some 24)) (v := ?_) (a' := ?_) #[true, true, true, true, true, false, false, false, false, false, false, false, false, false, false, false, false, false] rfl rfl (by kernel_rfl) (fun _ _ _ h => h) (Or.inl ⟨by rfl, ?_⟩) hH ?_ ?_
  rotate_left
  ·rintro w' ⟨s0, s1, s2, s3, s4, s5⟩
   go_simp
   with_reducible rfl
  rotate_left
  ·simp only [Act.put, List.setIfInBounds_toArray, List.set_cons_zero, List.set_cons_succ, i64_w, i32_w]
   rfl
  refine pure_ (i := 6) (N := (some 26)) (v := ?_) (a' := ?_) #[true, true, true, true, true, false, true, false, false, false, false, false, false, false, false, false, false, false] rfl rfl (by kernel_rfl) (fun _ _ _ h => h) (Or.inl ⟨by rfl, ?_⟩) ?_ ?_
  rotate_left
  ·intro w'
   go_simp
   with_reducible rfl
  rotate_left
  ·simp only [Act.put, List.setIfInBounds_toArray, List.set_cons_zero, List.set_cons_succ, i64_w, i32_w]
   rfl
  refine pure_ (i := 7) (N := (some 27)) (v := ?_) (a' := ?_) #[true, true, true, true, true, false, true, true, false, false, false, false, false, false, false, false, false, false] rfl rfl (by kernel_rfl) (fun _ _ _ h => h) (Or.inl ⟨by rfl, ?_⟩) ?_ ?_
  rotate_left
  ·intro w'
   go_simp
   with_reducible rfl
  rotate_left
  ·simp only [Act.put, List.setIfInBounds_toArray, List.set_cons_zero, List.set_cons_succ, i64_w, i32_w]
   rfl
  refine pure_ (i := 8) (N := (some 28)) (v := ?_) (a' := ?_) #[true, true, true, true, true, false, true, true, true, false, false, false, false, false, false, false, false, false] rfl rfl (by kernel_rfl) (fun _ _ _ h => h) (Or.inl ⟨by rfl, ?_⟩) ?_ ?_
  rotate_left
  ·intro w'
   go_simp
   with_reducible rfl
  rotate_left
  ·simp only [Act.put, List.setIfInBounds_toArray, List.set_cons_zero, List.set_cons_succ, i64_w, i32_w]
   rfl
  refine take_ (i := 9) (N := (some 29)) (v := ?_) (a' := ?_) #[true, true, true, true, true, false, true, true, true, true, false, false, false, false, false, false, false, false] rfl rfl (by kernel_rfl) (fun _ _ _ h => h) (Or.inl ⟨by rfl, ?_⟩) hH ?_ ?_
  rotate_left
  ·rintro w' ⟨s0, s1, s2, s3, s4, s5⟩
   go_simp
   with_reducible rfl
  rotate_left
  ·simp only [Act.put, List.setIfInBounds_toArray, List.set_cons_zero, List.set_cons_succ, i64_w, i32_w]
   rfl
  refine take_ (i := 10) (N := (some 30)) (v := ?_) (a' := ?_) #[true, true, true, true, true, false, true, true, true, true, true, false, false, false, false, false, false, false] rfl rfl (by kernel_rfl) (fun _ _ _ h => h) (Or.inl ⟨by rfl, ?_⟩) hH ?_ ?_
  rotate_left
  ·rintro w' ⟨s0, s1, s2, s3, s4, s5⟩
   go_simp
   with_reducible rfl
  rotate_left
  ·simp only [Act.put, List.setIfInBounds_toArray, List.set_cons_zero, List.set_cons_succ, i64_w, i32_w]
   rfl
  refine take_ (i := 12) (N := (some 32)) (v := ?_) (a' := ?_) #[true, true, true, true, true, false, true, true, true, true, true, false, true, false, false, false, false, false] rfl rfl (by kernel_rfl) (fun _ _ _ h => h) (Or.inl ⟨by rfl, ?_⟩) hH ?_ ?_
  rotate_left
  ·rintro w' ⟨s0, s1, s2, s3, s4, s5⟩
   go_simp
   with_reducible rfl
  rotate_left
  ·simp only [Act.put, List.setIfInBounds_toArray, List.set_cons_zero, List.set_cons_succ, i64_w, i32_w]
   rfl
  refine take_ (i := 13) (N := (some 33)) (v := ?_) (a' := ?_) #[true, true, true, true, true, false, true, true, true, true, true, false, true, true, false, false, false, false] rfl rfl (by kernel_rfl) (fun _ _ _ h => h) (Or.inl ⟨by rfl, ?_⟩) hH ?_ ?_
  rotate_left
  ·rintro w' ⟨s0, s1, s2, s3, s4, s5⟩
   go_simp
   with_reducible rfl
  rotate_left
  ·simp only [Act.put, List.setIfInBounds_toArray, List.set_cons_zero, List.set_cons_succ, i64_w, i32_w]
   rfl
  refine one_ (i := 5) (N := (some 25)) #[true, true, true, true, true, true, true, true, true, true, true, false, true, true, false, false, false, false] rfl rfl (by kernel_rfl) (by decide) (fun K hK => ?_)
  refine goes_ Try.func49 (by kernel_rfl) rfl #[.slice pl.ha pl.hl pl.hc, .agg #[.int .i64 ((Go.G880.spec_l08At (mid ⟨x0, x1⟩))).lo, .int .i64 ((Go.G880.spec_l08At (mid ⟨x0, x1⟩))).hi]] (by rfl) rfl rfl (by (try simp only [List.map_toArray, List.map_cons, List.map_nil]); first | done | rfl | (simp only [List.length_drop, List.length_take]; rfl)) ?_
  refine (l09At_ (x := (Go.G880.spec_l08At (mid ⟨x0, x1⟩))) hl2 (hl.below hb7)).mono ?_
  rintro e w8 ⟨rfl, hb8⟩
  refine ⟨_, rfl, ?_⟩
  refine hK.out _ _ ⟨cb hb8 hH.1, cb hb8 hH.2.1, cb hb8 hH.2.2.1, cb hb8 hH.2.2.2.1, cb hb8 hH.2.2.2.2.1, cb hb8 hH.2.2.2.2.2⟩ (fun hH => ?_)
  clear hK K
  refine norm_ (a' := ?_) ?_ ?_
  rotate_left
  ·show Act.put _ (some 25) _ = _
   simp only [Act.put, List.setIfInBounds_toArray, List.set_cons_zero, List.set_cons_succ, i64_w, i32_w]
   rfl
  replace hb7 := below_step hb7 hb8
  replace hr7 := blk_below hr7 hb8
  clear hb8
  refine one_ (i := 11) (N := (some 31)) #[true, true, true, true, true, true, true, true, true, true, true, true, true, true, false, false, false, false] rfl rfl (by kernel_rfl) (by decide) (fun K hK => ?_)
  refine goes_ Try.func49 (by kernel_rfl) rfl #[.slice ps.ha ps.hl ps.hc, .agg #[.int .i64 x0, .int .i64 x1]] (by rfl) rfl rfl (by (try simp only [List.map_toArray, List.map_cons, List.map_nil]); first | done | rfl | (simp only [List.length_drop, List.length_take]; rfl)) ?_
  refine (l09At_ (x := ⟨x0, x1⟩) hs3 (hs.below hb7)).mono ?_
  rintro e w9 ⟨rfl, hb8⟩
  refine ⟨_, rfl, ?_⟩
  refine hK.out _ _ ⟨cb hb8 hH.1, cb hb8 hH.2.1, cb hb8 hH.2.2.1, cb hb8 hH.2.2.2.1, cb hb8 hH.2.2.2.2.1, cb hb8 hH.2.2.2.2.2⟩ (fun hH => ?_)
  clear hK K
  refine norm_ (a' := ?_) ?_ ?_
  rotate_left
  ·show Act.put _ (some 31) _ = _
   simp only [Act.put, List.setIfInBounds_toArray, List.set_cons_zero, List.set_cons_succ, i64_w, i32_w]
   rfl
  replace hb7 := below_step hb7 hb8
  replace hr7 := blk_below hr7 hb8
  clear hb8
  refine one_ (i := 14) (N := (some 34)) #[true, true, true, true, true, true, true, true, true, true, true, true, true, true, true, false, false, false] rfl rfl (by kernel_rfl) (by decide) (fun K hK => ?_)
  refine goes_ Try.func66 (by kernel_rfl) rfl #[.agg #[.int .i64 x0, .int .i64 x1], .agg #[.int .i64 ((Go.G880.spec_l08At (mid ⟨x0, x1⟩))).lo, .int .i64 ((Go.G880.spec_l08At (mid ⟨x0, x1⟩))).hi]] (by rfl) rfl rfl (by (try simp only [List.map_toArray, List.map_cons, List.map_nil]); first | done | rfl | (simp only [List.length_drop, List.length_take]; rfl)) ?_
  refine (ssubI_ ⟨x0, x1⟩ (Go.G880.spec_l08At (mid ⟨x0, x1⟩)) _).mono ?_
  rintro e w10 ⟨rfl, hb8⟩
  refine ⟨_, rfl, ?_⟩
  refine hK.out _ _ ⟨cb hb8 hH.1, cb hb8 hH.2.1, cb hb8 hH.2.2.1, cb hb8 hH.2.2.2.1, cb hb8 hH.2.2.2.2.1, cb hb8 hH.2.2.2.2.2⟩ (fun hH => ?_)
  clear hK K
  refine norm_ (a' := ?_) ?_ ?_
  rotate_left
  ·show Act.put _ (some 34) _ = _
   simp only [Act.put, List.setIfInBounds_toArray, List.set_cons_zero, List.set_cons_succ, i64_w, i32_w]
   rfl
  replace hb7 := below_step hb7 hb8
  replace hr7 := blk_below hr7 hb8
  clear hb8
  refine one_ (i := 15) (N := (some 35)) #[true, true, true, true, true, true, true, true, true, true, true, true, true, true, true, true, false, false] rfl rfl (by kernel_rfl) (by decide) (fun K hK => ?_)
  refine goes_ Try.func18 (by kernel_rfl) rfl #[.agg #[.int .i64 (Go.G880.spec_l09At s ⟨x0, x1⟩).lo, .int .i64 (Go.G880.spec_l09At s ⟨x0, x1⟩).hi], .agg #[.int .i64 (Go.G880.spec_SubI ⟨x0, x1⟩ (Go.G880.spec_l08At (mid ⟨x0, x1⟩))).lo, .int .i64 (Go.G880.spec_SubI ⟨x0, x1⟩ (Go.G880.spec_l08At (mid ⟨x0, x1⟩))).hi]] (by rfl) rfl rfl (by (try simp only [List.map_toArray, List.map_cons, List.map_nil]); first | done | rfl | (simp only [List.length_drop, List.length_take]; rfl)) ?_
  refine (smulI_ (Go.G880.spec_l09At s ⟨x0, x1⟩) (Go.G880.spec_SubI ⟨x0, x1⟩ (Go.G880.spec_l08At (mid ⟨x0, x1⟩))) _).mono ?_
  rintro e w11 ⟨rfl, hb8⟩
  refine ⟨_, rfl, ?_⟩
  refine hK.out _ _ ⟨cb hb8 hH.1, cb hb8 hH.2.1, cb hb8 hH.2.2.1, cb hb8 hH.2.2.2.1, cb hb8 hH.2.2.2.2.1, cb hb8 hH.2.2.2.2.2⟩ (fun hH => ?_)
  clear hK K
  refine norm_ (a' := ?_) ?_ ?_
  rotate_left
  ·show Act.put _ (some 35) _ = _
   simp only [Act.put, List.setIfInBounds_toArray, List.set_cons_zero, List.set_cons_succ, i64_w, i32_w]
   rfl
  replace hb7 := below_step hb7 hb8
  replace hr7 := blk_below hr7 hb8
  clear hb8
  refine one_ (i := 16) (N := (some 36)) #[true, true, true, true, true, true, true, true, true, true, true, true, true, true, true, true, true, false] rfl rfl (by kernel_rfl) (by decide) (fun K hK => ?_)
  refine goes_ Try.func17 (by kernel_rfl) rfl #[.agg #[.int .i64 (Go.G880.spec_l09At l (Go.G880.spec_l08At (mid ⟨x0, x1⟩))).lo, .int .i64 (Go.G880.spec_l09At l (Go.G880.spec_l08At (mid ⟨x0, x1⟩))).hi], .agg #[.int .i64 (Go.G880.spec_MulI (Go.G880.spec_l09At s ⟨x0, x1⟩) (Go.G880.spec_SubI ⟨x0, x1⟩ (Go.G880.spec_l08At (mid ⟨x0, x1⟩)))).lo, .int .i64 (Go.G880.spec_MulI (Go.G880.spec_l09At s ⟨x0, x1⟩) (Go.G880.spec_SubI ⟨x0, x1⟩ (Go.G880.spec_l08At (mid ⟨x0, x1⟩)))).hi]] (by rfl) rfl rfl (by (try simp only [List.map_toArray, List.map_cons, List.map_nil]); first | done | rfl | (simp only [List.length_drop, List.length_take]; rfl)) ?_
  refine (saddI_ (Go.G880.spec_l09At l (Go.G880.spec_l08At (mid ⟨x0, x1⟩))) (Go.G880.spec_MulI (Go.G880.spec_l09At s ⟨x0, x1⟩) (Go.G880.spec_SubI ⟨x0, x1⟩ (Go.G880.spec_l08At (mid ⟨x0, x1⟩)))) _).mono ?_
  rintro e w12 ⟨rfl, hb8⟩
  refine ⟨_, rfl, ?_⟩
  refine hK.out _ _ ⟨cb hb8 hH.1, cb hb8 hH.2.1, cb hb8 hH.2.2.1, cb hb8 hH.2.2.2.1, cb hb8 hH.2.2.2.2.1, cb hb8 hH.2.2.2.2.2⟩ (fun hH => ?_)
  clear hK K
  refine norm_ (a' := ?_) ?_ ?_
  rotate_left
  ·show Act.put _ (some 36) _ = _
   simp only [Act.put, List.setIfInBounds_toArray, List.set_cons_zero, List.set_cons_succ, i64_w, i32_w]
   rfl
  replace hb7 := below_step hb7 hb8
  replace hr7 := blk_below hr7 hb8
  clear hb8
  refine last_ (i := 17) (N := none) #[true, true, true, true, true, true, true, true, true, true, true, true, true, true, true, true, true, true] rfl rfl (by kernel_rfl) (by decide) (fun K hK => ?_)
  have r0 : w12.cell? ⟨gr, 0, none⟩ = some (.int .i64 0) := (blk_cell hr7 0).trans rfl
  have r1 : w12.cell? ⟨gr, 1, none⟩ = some (.int .i64 0) := (blk_cell hr7 1).trans rfl
  have f0 := blk_frozen hr7 0
  have f1 := blk_frozen hr7 1
  refine skip_ (w1 := ((w12.setCell ⟨gr, 0, none⟩ (.int .i64 (Go.G880.spec_AddI (Go.G880.spec_l09At l (Go.G880.spec_l08At (mid ⟨x0, x1⟩))) (Go.G880.spec_MulI (Go.G880.spec_l09At s ⟨x0, x1⟩) (Go.G880.spec_SubI ⟨x0, x1⟩ (Go.G880.spec_l08At (mid ⟨x0, x1⟩))))).lo)).setCell ⟨gr, 1, none⟩ (.int .i64 (Go.G880.spec_AddI (Go.G880.spec_l09At l (Go.G880.spec_l08At (mid ⟨x0, x1⟩))) (Go.G880.spec_MulI (Go.G880.spec_l09At s ⟨x0, x1⟩) (Go.G880.spec_SubI ⟨x0, x1⟩ (Go.G880.spec_l08At (mid ⟨x0, x1⟩))))).hi))) (by rfl) rfl (by first | (go_simp; done) | (go_simp; rfl)) ?_
  refine hK.out _ _ ?_
  clear hK K
  refine done_ (by kernel_rfl) ?_
  try go_wp2
  refine bodyPost_ret (results_cell_row rfl _ _ gr 35 #[.int .i64 (Go.G880.spec_AddI (Go.G880.spec_l09At l (Go.G880.spec_l08At (mid ⟨x0, x1⟩))) (Go.G880.spec_MulI (Go.G880.spec_l09At s ⟨x0, x1⟩) (Go.G880.spec_SubI ⟨x0, x1⟩ (Go.G880.spec_l08At (mid ⟨x0, x1⟩))))).lo, .int .i64 (Go.G880.spec_AddI (Go.G880.spec_l09At l (Go.G880.spec_l08At (mid ⟨x0, x1⟩))) (Go.G880.spec_MulI (Go.G880.spec_l09At s ⟨x0, x1⟩) (Go.G880.spec_SubI ⟨x0, x1⟩ (Go.G880.spec_l08At (mid ⟨x0, x1⟩))))).hi] (0, 0) _ rfl (blk_put (cs := #[.int .i64 (Go.G880.spec_AddI (Go.G880.spec_l09At l (Go.G880.spec_l08At (mid ⟨x0, x1⟩))) (Go.G880.spec_MulI (Go.G880.spec_l09At s ⟨x0, x1⟩) (Go.G880.spec_SubI ⟨x0, x1⟩ (Go.G880.spec_l08At (mid ⟨x0, x1⟩))))).lo, .int .i64 0]) (blk_put (cs := #[.int .i64 0, .int .i64 0]) hr7 0 _ rfl) 1 _ rfl) hu35 rfl (by kernel_rfl)) rfl ?_
  exact ⟨by simp only [mean, he, cond_false], below_set (below_set hb7 wr.out) wr.out⟩
end Go.Proofs.Ytmdicdkceekodaa.TX
