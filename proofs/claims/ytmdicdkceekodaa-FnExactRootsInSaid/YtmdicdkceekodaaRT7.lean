/- The reference's search for all roots: the machine walks it. -/
import Derived.Test.YtmdicdkceekodaaRT7a
set_option linter.unusedVariables false
set_option linter.unusedSimpArgs false
namespace Go.Proofs.Ytmdicdkceekodaa.TX
open Go.RowKit Go.Proofs.YtmdicdkceekodaaW.PrintWords Go.Proofs.YtmdicdkceekodaaW.PrintLast Go.RX
theorem der_few {l : List Value} (hl : (l.length : Int) ≤ 1048576) : (Go.G880.spec_PolyDerivative l).1.reverse.length ≤ 1048576 := by
 cases h : ((Go.G880.spec_PolyDerivative l).2 == 0) with
 | true => have := (Go.G880.der_ok hl h).2.2; omega
 | false =>
  have : (Go.G880.spec_PolyDerivative l).1 = [] := by
   revert h
   simp only [Go.G880.spec_PolyDerivative, Bool.cond_eq_ite]
   repeat' split
   all_goals (first | (intro _; rfl) | (intro h; simp at h))
  rw [this]; decide
theorem l09Ok_b {b : Bool} {l : List Value} (hq : Go.G880.spec_l09Ok l = b) (hl : l.length ≤ 1048576) {w : World} {p : Pl} (hL : Rd p l w) :
  Calls Try.prog 15 #[.slice p.ha p.hl p.hc] w fun e w' => e = .returned (.bool b) ∧ Below w.heap.size w w' :=
 hq ▸ GivesA.calls (xs := [.slice p.ha p.hl p.hc]) (spec_l09Ok.gives l (decide_eq_true (by omega))) rfl (Ready.l hL hL.low (Ready.nil w))
theorem l04Ok_b {b : Bool} {x0 x1 : Int} (hq : Go.G880.spec_l04Ok ⟨x0, x1⟩ = b) (w : World) : Calls Try.prog 25 #[.agg #[.int .i64 x0, .int .i64 x1]] w fun e w' => e = .returned (.bool b) ∧ Below w.heap.size w w' := hq ▸ (spec_l04Ok.gives ⟨x0, x1⟩).calls rfl rfl w
theorem l00In_b {b : Bool} {n lo hi : Int} (hq : Go.G880.spec_l00In n lo hi = b) (w : World) : Calls Try.prog 26 #[.int .i64 n, .int .i64 lo, .int .i64 hi] w fun e w' => e = .returned (.bool b) ∧ Below w.heap.size w w' := hq ▸ (spec_l00In.gives n lo hi).calls rfl rfl w
theorem deriv27 {l : List Value} (hl : l.length ≤ 1048576) {w : World} {p : Pl} (hL : Rd p l w) :
  Calls Try.prog 27 #[.slice p.ha p.hl p.hc] w fun e w' => ∃ q : Pl, e = .returned (.tuple #[.slice q.ha q.hl q.hc, .int .i64 (Go.G880.spec_PolyDerivative l).2]) ∧ Rd q (Go.G880.spec_PolyDerivative l).1.reverse w' ∧ Below w.heap.size w w' :=
 (deriv_ (spec_PolyDerivative.gives l (decide_eq_true (by omega))) hL).mono fun e w' ⟨q, h1, h2, _, _, h5⟩ => ⟨q, h1, h2, h5⟩
def sfound (l : List Value) (x : Iv) (d : Int) : List Iv × List Iv := ssrch l (Go.G880.spec_PolyDerivative l).1.reverse 70 x d [] []
def srootsIn (l : List Value) (x : Iv) (d : Int) : List Iv × List Iv × Int :=
 bif !Go.G880.spec_l09Ok l || !Go.G880.spec_l04Ok x then ([], [], 1) else bif !Go.G880.spec_l00In d 0 60 then ([], [], 2) else
 bif decide (64 < (sfound l x d).1.length + (sfound l x d).2.length) then ([], [], 5) else ((sfound l x d).1, (sfound l x d).2, 0)
theorem ssearch_b {l : List Value} {pl ps : Pl} {x0 x1 d : Int} (hl2 : 1 ≤ l.length ∧ l.length ≤ 1048576) {w0 : World} (hl : Rd pl l w0) {g : Nat} (hg : w0.heap.size ≤ g) {w : World} {vu vv : Value} (hF : Fin 47 w0 w g pl ps (Go.G880.spec_PolyDerivative l).1.reverse vu vv [] []) (hd : 0 ≤ d ∧ d ≤ 60) :
  Calls Try.prog 28 #[.pointer (some ⟨g, 0, none⟩), .agg #[.int .i64 x0, .int .i64 x1], .int .i64 d] w fun e w' => e = .returned (.tuple #[]) ∧ ∃ vu' vv', Fin 47 w0 w' g pl ps (Go.G880.spec_PolyDerivative l).1.reverse vu' vv' (sfound l ⟨x0, x1⟩ d).1 (sfound l ⟨x0, x1⟩ d).2 :=
 (ssearch_ hl2 (der_few (by omega)) hl hg 70 w vu vv [] [] x0 x1 d hF hd.1 (by omega) (by omega) (by decide)).mono fun e w' ⟨h1, vu', vv', h2, _⟩ => ⟨h1, vu', vv', h2⟩
set_option maxHeartbeats 8000000 in
set_option maxRecDepth 100000 in
theorem srootsIn_ (w : World) (pl : Pl) (l : List Value) (x0 x1 d : Int) (hl : Rd pl l w) (hl2 : l.length ≤ 1048576) :
  Calls Try.prog 12 #[.slice pl.ha pl.hl pl.hc, .agg #[.int .i64 x0, .int .i64 x1], .int .i64 d] w fun e w' => ∃ v0 v1 : Value, e = .returned (.tuple #[v0, v1, .int .i64 (srootsIn l ⟨x0, x1⟩ d).2.2]) ∧
   kIv.R 35 w' w.heap.size (fun _ => True) v0 (srootsIn l ⟨x0, x1⟩ d).1 ∧ kIv.R 35 w' w.heap.size (fun _ => True) v1 (srootsIn l ⟨x0, x1⟩ d).2.1 ∧ (∀ k, v0.ownBlock = some k → v1.ownBlock ≠ some k) ∧ Below w.heap.size w w' := by
 have hu35 := Try.underlying35
 have hu47 := Try.underlying47
 have hu24 := Try.underlying24
 cases q1 : Go.G880.spec_l09Ok l with
 | false =>
  have hr : srootsIn l ⟨x0, x1⟩ d = ([], [], 1) := by unfold srootsIn; rw [q1]; rfl
  go_enter Try.func12, Try.ntmps12
  go_wp2_with (first | ((with_reducible refine gate_dst (N := 4) rfl ?_); refine box_event ?hg (N := 4) ?hd (cs := #[.int .i64 x0, .int .i64 x1]) (t := 35) ?hr ?_; (case hd => rfl); (case hg => rfl); (case hr => first | (go_simp; done) | (go_simp; rfl)); intro gx hgx w1 hx hb1; have e0 := (blk_cell hx 0).trans rfl; have e1 := (blk_cell hx 1).trans rfl; clear hgx) | ((with_reducible refine gate_callee (f := 15) rfl ?_); refine goesL_ (some 13) rfl rfl Try.func15 (by kernel_rfl) rfl #[.slice pl.ha pl.hl pl.hc] rfl (by (try simp only [List.map_toArray, List.map_cons, List.map_nil]); first | done | rfl | (simp only [List.length_drop, List.length_take]; rfl)) ?_; refine (l09Ok_b q1 hl2 (hl.below (below_step hb1 qb))).mono ?_; rintro e w2 ⟨rfl, hb2⟩; refine ⟨_, rfl, ?_⟩; replace hb1 := below_step hb1 (below_step qb hb2); replace hx := blk_below hx (below_step qb hb2); have e0 := (blk_cell hx 0).trans rfl; have e1 := (blk_cell hx 1).trans rfl; clear hb2))
  go_ret3
  rw [hr]
  exact ⟨_, _, rfl, Kd.R_nil _ _ _ _ _, Kd.R_nil _ _ _ _ _, fun k hk => by simp [Value.ownBlock] at hk, below_step hb1 qb⟩
 | true =>
 cases q2 : Go.G880.spec_l04Ok ⟨x0, x1⟩ with
 | false =>
  have hr : srootsIn l ⟨x0, x1⟩ d = ([], [], 1) := by unfold srootsIn; rw [q1, q2]; rfl
  go_enter Try.func12, Try.ntmps12
  go_wp2_with (first | ((with_reducible refine gate_dst (N := 4) rfl ?_); refine box_event ?hg (N := 4) ?hd (cs := #[.int .i64 x0, .int .i64 x1]) (t := 35) ?hr ?_; (case hd => rfl); (case hg => rfl); (case hr => first | (go_simp; done) | (go_simp; rfl)); intro gx hgx w1 hx hb1; have e0 := (blk_cell hx 0).trans rfl; have e1 := (blk_cell hx 1).trans rfl; clear hgx) | ((with_reducible refine gate_callee (f := 15) rfl ?_); refine goesL_ (some 13) rfl rfl Try.func15 (by kernel_rfl) rfl #[.slice pl.ha pl.hl pl.hc] rfl (by (try simp only [List.map_toArray, List.map_cons, List.map_nil]); first | done | rfl | (simp only [List.length_drop, List.length_take]; rfl)) ?_; refine (l09Ok_b q1 hl2 (hl.below (below_step hb1 qb))).mono ?_; rintro e w2 ⟨rfl, hb2⟩; refine ⟨_, rfl, ?_⟩; replace hb1 := below_step hb1 (below_step qb hb2); replace hx := blk_below hx (below_step qb hb2); have e0 := (blk_cell hx 0).trans rfl; have e1 := (blk_cell hx 1).trans rfl; clear hb2) | ((with_reducible refine gate_callee (f := 25) rfl ?_); refine gate_guard (by rfl) ?_; refine goesL_ (some 17) rfl rfl Try.func25 (by kernel_rfl) rfl #[.agg #[.int .i64 x0, .int .i64 x1]] rfl (by (try simp only [List.map_toArray, List.map_cons, List.map_nil]); first | done | rfl | (simp only [List.length_drop, List.length_take]; rfl)) ?_; refine (l04Ok_b q2 _).mono ?_; rintro e w3 ⟨rfl, hb2⟩; refine ⟨_, rfl, ?_⟩; replace hb1 := below_step hb1 (below_step qb hb2); replace hx := blk_below hx (below_step qb hb2); have e0 := (blk_cell hx 0).trans rfl; have e1 := (blk_cell hx 1).trans rfl; clear hb2))
  go_ret3
  rw [hr]
  exact ⟨_, _, rfl, Kd.R_nil _ _ _ _ _, Kd.R_nil _ _ _ _ _, fun k hk => by simp [Value.ownBlock] at hk, below_step hb1 qb⟩
 | true =>
 cases q3 : Go.G880.spec_l00In d 0 60 with
 | false =>
  have hr : srootsIn l ⟨x0, x1⟩ d = ([], [], 2) := by unfold srootsIn; rw [q1, q2, q3]; rfl
  go_enter Try.func12, Try.ntmps12
  go_wp2_with (first | ((with_reducible refine gate_dst (N := 4) rfl ?_); refine box_event ?hg (N := 4) ?hd (cs := #[.int .i64 x0, .int .i64 x1]) (t := 35) ?hr ?_; (case hd => rfl); (case hg => rfl); (case hr => first | (go_simp; done) | (go_simp; rfl)); intro gx hgx w1 hx hb1; have e0 := (blk_cell hx 0).trans rfl; have e1 := (blk_cell hx 1).trans rfl; clear hgx) | ((with_reducible refine gate_callee (f := 15) rfl ?_); refine goesL_ (some 13) rfl rfl Try.func15 (by kernel_rfl) rfl #[.slice pl.ha pl.hl pl.hc] rfl (by (try simp only [List.map_toArray, List.map_cons, List.map_nil]); first | done | rfl | (simp only [List.length_drop, List.length_take]; rfl)) ?_; refine (l09Ok_b q1 hl2 (hl.below (below_step hb1 qb))).mono ?_; rintro e w2 ⟨rfl, hb2⟩; refine ⟨_, rfl, ?_⟩; replace hb1 := below_step hb1 (below_step qb hb2); replace hx := blk_below hx (below_step qb hb2); have e0 := (blk_cell hx 0).trans rfl; have e1 := (blk_cell hx 1).trans rfl; clear hb2) | ((with_reducible refine gate_callee (f := 25) rfl ?_); refine gate_guard (by rfl) ?_; refine goesL_ (some 17) rfl rfl Try.func25 (by kernel_rfl) rfl #[.agg #[.int .i64 x0, .int .i64 x1]] rfl (by (try simp only [List.map_toArray, List.map_cons, List.map_nil]); first | done | rfl | (simp only [List.length_drop, List.length_take]; rfl)) ?_; refine (l04Ok_b q2 _).mono ?_; rintro e w3 ⟨rfl, hb2⟩; refine ⟨_, rfl, ?_⟩; replace hb1 := below_step hb1 (below_step qb hb2); replace hx := blk_below hx (below_step qb hb2); have e0 := (blk_cell hx 0).trans rfl; have e1 := (blk_cell hx 1).trans rfl; clear hb2) | ((with_reducible refine gate_callee (f := 26) rfl ?_); refine goesL_ (some 21) rfl rfl Try.func26 (by kernel_rfl) rfl #[.int .i64 d, .int .i64 0, .int .i64 60] rfl (by (try simp only [List.map_toArray, List.map_cons, List.map_nil]); first | done | rfl | (simp only [List.length_drop, List.length_take]; rfl)) ?_; refine (l00In_b q3 _).mono ?_; rintro e w4 ⟨rfl, hb2⟩; refine ⟨_, rfl, ?_⟩; replace hb1 := below_step hb1 (below_step qb hb2); replace hx := blk_below hx (below_step qb hb2); have e0 := (blk_cell hx 0).trans rfl; have e1 := (blk_cell hx 1).trans rfl; clear hb2))
  go_ret3
  rw [hr]
  exact ⟨_, _, rfl, Kd.R_nil _ _ _ _ _, Kd.R_nil _ _ _ _ _, fun k hk => by simp [Value.ownBlock] at hk, below_step hb1 qb⟩
 | true =>
 have hn := Go.G880.l09_len (show (l.length : Int) ≤ 1048576 by omega) q1
 have hl3 : 1 ≤ l.length ∧ l.length ≤ 1048576 := by omega
 have hd : 0 ≤ d ∧ d ≤ 60 := by
  unfold Go.G880.spec_l00In at q3
  cases h4 : decide (d ≥ 0) <;> simp only [h4, cond_true, cond_false] at q3
  ·cases q3
  exact ⟨of_decide_eq_true h4, of_decide_eq_true q3⟩
 have hfew := ssrch_few l (Go.G880.spec_PolyDerivative l).1.reverse 70 ⟨x0, x1⟩ d [] [] (by decide)
 rw [show ssrch l (Go.G880.spec_PolyDerivative l).1.reverse 70 ⟨x0, x1⟩ d [] [] = sfound l ⟨x0, x1⟩ d from rfl] at hfew
 go_enter Try.func12, Try.ntmps12
 go_wp2_with (first | ((with_reducible refine gate_dst (N := 4) rfl ?_); refine box_event ?hg (N := 4) ?hd (cs := #[.int .i64 x0, .int .i64 x1]) (t := 35) ?hr ?_; (case hd => rfl); (case hg => rfl); (case hr => first | (go_simp; done) | (go_simp; rfl)); intro gx hgx w1 hx hb1; have e0 := (blk_cell hx 0).trans rfl; have e1 := (blk_cell hx 1).trans rfl; clear hgx) | ((with_reducible refine gate_callee (f := 15) rfl ?_); refine goesL_ (some 13) rfl rfl Try.func15 (by kernel_rfl) rfl #[.slice pl.ha pl.hl pl.hc] rfl (by (try simp only [List.map_toArray, List.map_cons, List.map_nil]); first | done | rfl | (simp only [List.length_drop, List.length_take]; rfl)) ?_; refine (l09Ok_b q1 hl2 (hl.below (below_step hb1 qb))).mono ?_; rintro e w2 ⟨rfl, hb2⟩; refine ⟨_, rfl, ?_⟩; replace hb1 := below_step hb1 (below_step qb hb2); replace hx := blk_below hx (below_step qb hb2); have e0 := (blk_cell hx 0).trans rfl; have e1 := (blk_cell hx 1).trans rfl; clear hb2) | ((with_reducible refine gate_callee (f := 25) rfl ?_); refine gate_guard (by rfl) ?_; refine goesL_ (some 17) rfl rfl Try.func25 (by kernel_rfl) rfl #[.agg #[.int .i64 x0, .int .i64 x1]] rfl (by (try simp only [List.map_toArray, List.map_cons, List.map_nil]); first | done | rfl | (simp only [List.length_drop, List.length_take]; rfl)) ?_; refine (l04Ok_b q2 _).mono ?_; rintro e w3 ⟨rfl, hb2⟩; refine ⟨_, rfl, ?_⟩; replace hb1 := below_step hb1 (below_step qb hb2); replace hx := blk_below hx (below_step qb hb2); have e0 := (blk_cell hx 0).trans rfl; have e1 := (blk_cell hx 1).trans rfl; clear hb2) | ((with_reducible refine gate_callee (f := 26) rfl ?_); refine goesL_ (some 21) rfl rfl Try.func26 (by kernel_rfl) rfl #[.int .i64 d, .int .i64 0, .int .i64 60] rfl (by (try simp only [List.map_toArray, List.map_cons, List.map_nil]); first | done | rfl | (simp only [List.length_drop, List.length_take]; rfl)) ?_; refine (l00In_b q3 _).mono ?_; rintro e w4 ⟨rfl, hb2⟩; refine ⟨_, rfl, ?_⟩; replace hb1 := below_step hb1 (below_step qb hb2); replace hx := blk_below hx (below_step qb hb2); have e0 := (blk_cell hx 0).trans rfl; have e1 := (blk_cell hx 1).trans rfl; clear hb2) | ((with_reducible refine gate_callee (f := 27) rfl ?_); refine goesL_ (some 25) rfl rfl Try.func27 (by kernel_rfl) rfl #[.slice pl.ha pl.hl pl.hc] rfl (by (try simp only [List.map_toArray, List.map_cons, List.map_nil]); first | done | rfl | (simp only [List.length_drop, List.length_take]; rfl)) ?_; refine (deriv27 hl2 (hl.below (below_step hb1 qb))).mono ?_; rintro e w5 ⟨ps, rfl, hs5, hb2⟩; refine ⟨_, rfl, ?_⟩; replace hb1 := below_step hb1 (below_step qb hb2); replace hx := blk_below hx (below_step qb hb2); have e0 := (blk_cell hx 0).trans rfl; have e1 := (blk_cell hx 1).trans rfl; clear hb2) | ((with_reducible refine gate_dst (N := 31) rfl ?_); refine box_event ?hg (N := 31) ?hd (cs := #[.slice pl.ha pl.hl pl.hc, .slice ps.ha ps.hl ps.hc, .slice none 0 0, .slice none 0 0]) (t := 47) ?hr ?_; (case hd => rfl); (case hg => rfl); (case hr => first | (go_simp; done) | (go_simp; rfl)); intro g hgx w6 hbk hb3; have hge := Aside0.mk (show w.heap.size ≤ g by rw [hgx]; exact (below_step hb1 qb).size); have hg3 := Aside0.mk (show ∀ k, ps.adr = some k → k < g by rw [hgx]; exact (hs5.below qb).low); replace hs5 := hs5.below (below_step qb hb3); replace hb1 := below_step hb1 (below_step qb hb3); replace hx := blk_below hx (below_step qb hb3); have e0 := (blk_cell hx 0).trans rfl; have e1 := (blk_cell hx 1).trans rfl; clear hb3; clear hgx) | ((with_reducible refine gate_callee (f := 28) rfl ?_); have hF : Fin 47 w w6 g pl ps (Go.G880.spec_PolyDerivative l).1.reverse (.slice none 0 0) (.slice none 0 0) [] [] := ⟨hbk, Kd.R_nil _ _ _ _ _, Kd.R_nil _ _ _ _ _, (fun k hk => by simp [Value.ownBlock] at hk), hb1, hs5, fun k hk => ⟨Nat.ne_of_lt (hg3.out k hk), by simp [Value.ownBlock], by simp [Value.ownBlock]⟩⟩; refine goesL_ (some 35) rfl rfl Try.func28 (by kernel_rfl) rfl #[.pointer (some ⟨g, 0, none⟩), .agg #[.int .i64 x0, .int .i64 x1], .int .i64 d] rfl (by (try simp only [List.map_toArray, List.map_cons, List.map_nil]); first | done | rfl | (simp only [List.length_drop, List.length_take]; rfl)) ?_; refine (ssearch_b hl3 hl hge.out (hF.move qb) hd).mono ?_; rintro e w7 ⟨rfl, vu, vv, hF7⟩; refine ⟨_, rfl, ?_⟩))
 obtain ⟨a2, n2, eu⟩ := Kd.R_slice hF7.u
 obtain ⟨a3, n3, ev⟩ := Kd.R_slice hF7.v
 subst eu
 subst ev
 have hw : wrap64 (((sfound l ⟨x0, x1⟩ d).1.length : Int) + ((sfound l ⟨x0, x1⟩ d).2.length : Int)) = ((sfound l ⟨x0, x1⟩ d).1.length : Int) + ((sfound l ⟨x0, x1⟩ d).2.length : Int) := by unfold wrap64; omega
 refine start_ (n := 12) (S := fun w' => w'.cell? ⟨g, 2, none⟩ = some (.slice a2 (sfound l ⟨x0, x1⟩ d).1.length n2) ∧ w'.cell? ⟨g, 3, none⟩ = some (.slice a3 (sfound l ⟨x0, x1⟩ d).2.length n3)) (ds := []) #[false, false, false, false, false, false, false, false, false, false, false, false] (by kernel_rfl) rfl rfl (⟨(blk_cell hF7.blk 2).trans rfl, (blk_cell hF7.blk 3).trans rfl⟩) (fun hH => ?_)
 replace hF7 := hF7.drew
 generalize World.drew _ = wr at hF7 hH ⊢
 refine pure_ (i := 0) (N := (some 36)) (v := ?_) (a' := ?_) #[true, false, false, false, false, false, false, false, false, false, false, false] rfl rfl (by kernel_rfl) (fun _ _ _ h => h) (Or.inl ⟨by rfl, ?_⟩) ?_ ?_
 rotate_left
 ·intro w'
  go_simp
  with_reducible rfl
 rotate_left
 ·simp only [Act.put, List.setIfInBounds_toArray, List.set_cons_zero, List.set_cons_succ, i64_w, i32_w]
  rfl
 refine pure_ (i := 1) (N := (some 37)) (v := ?_) (a' := ?_) #[true, true, false, false, false, false, false, false, false, false, false, false] rfl rfl (by kernel_rfl) (fun _ _ _ h => h) (Or.inl ⟨by rfl, ?_⟩) ?_ ?_
 rotate_left
 ·intro w'
  go_simp
  with_reducible rfl
 rotate_left
 ·simp only [Act.put, List.setIfInBounds_toArray, List.set_cons_zero, List.set_cons_succ, i64_w, i32_w]
  rfl
 refine pure_ (i := 2) (N := (some 38)) (v := ?_) (a' := ?_) #[true, true, true, false, false, false, false, false, false, false, false, false] rfl rfl (by kernel_rfl) (fun _ _ _ h => h) (Or.inl ⟨by rfl, ?_⟩) ?_ ?_
 rotate_left
 ·intro w'
  go_simp
  with_reducible rfl
 rotate_left
 ·simp only [Act.put, List.setIfInBounds_toArray, List.set_cons_zero, List.set_cons_succ, i64_w, i32_w]
  rfl
 refine take_ (i := 3) (N := (some 39)) (v := ?_) (a' := ?_) #[true, true, true, true, false, false, false, false, false, false, false, false] rfl rfl (by kernel_rfl) (fun _ _ _ h => h) (Or.inl ⟨by rfl, ?_⟩) hH ?_ ?_
 rotate_left
 ·rintro w' ⟨s0, s1⟩
  go_simp
  with_reducible rfl
 rotate_left
 ·simp only [Act.put, List.setIfInBounds_toArray, List.set_cons_zero, List.set_cons_succ, i64_w, i32_w]
  rfl
 refine pure_ (i := 4) (N := (some 40)) (v := ?_) (a' := ?_) #[true, true, true, true, true, false, false, false, false, false, false, false] rfl rfl (by kernel_rfl) (fun _ _ _ h => h) (Or.inl ⟨by rfl, ?_⟩) ?_ ?_
 rotate_left
 ·intro w'
  go_simp
  with_reducible rfl
 rotate_left
 ·simp only [Act.put, List.setIfInBounds_toArray, List.set_cons_zero, List.set_cons_succ, i64_w, i32_w]
  rfl
 refine pure_ (i := 5) (N := (some 41)) (v := ?_) (a' := ?_) #[true, true, true, true, true, true, false, false, false, false, false, false] rfl rfl (by kernel_rfl) (fun _ _ _ h => h) (Or.inl ⟨by rfl, ?_⟩) ?_ ?_
 rotate_left
 ·intro w'
  go_simp
  with_reducible rfl
 rotate_left
 ·simp only [Act.put, List.setIfInBounds_toArray, List.set_cons_zero, List.set_cons_succ, i64_w, i32_w]
  rfl
 refine pure_ (i := 6) (N := (some 42)) (v := ?_) (a' := ?_) #[true, true, true, true, true, true, true, false, false, false, false, false] rfl rfl (by kernel_rfl) (fun _ _ _ h => h) (Or.inl ⟨by rfl, ?_⟩) ?_ ?_
 rotate_left
 ·intro w'
  go_simp
  with_reducible rfl
 rotate_left
 ·simp only [Act.put, List.setIfInBounds_toArray, List.set_cons_zero, List.set_cons_succ, i64_w, i32_w]
  rfl
 refine pure_ (i := 7) (N := (some 43)) (v := ?_) (a' := ?_) #[true, true, true, true, true, true, true, true, false, false, false, false] rfl rfl (by kernel_rfl) (fun _ _ _ h => h) (Or.inl ⟨by rfl, ?_⟩) ?_ ?_
 rotate_left
 ·intro w'
  go_simp
  with_reducible rfl
 rotate_left
 ·simp only [Act.put, List.setIfInBounds_toArray, List.set_cons_zero, List.set_cons_succ, i64_w, i32_w]
  rfl
 refine take_ (i := 8) (N := (some 44)) (v := ?_) (a' := ?_) #[true, true, true, true, true, true, true, true, true, false, false, false] rfl rfl (by kernel_rfl) (fun _ _ _ h => h) (Or.inl ⟨by rfl, ?_⟩) hH ?_ ?_
 rotate_left
 ·rintro w' ⟨s0, s1⟩
  go_simp
  with_reducible rfl
 rotate_left
 ·simp only [Act.put, List.setIfInBounds_toArray, List.set_cons_zero, List.set_cons_succ, i64_w, i32_w]
  rfl
 refine pure_ (i := 9) (N := (some 45)) (v := ?_) (a' := ?_) #[true, true, true, true, true, true, true, true, true, true, false, false] rfl rfl (by kernel_rfl) (fun _ _ _ h => h) (Or.inl ⟨by rfl, ?_⟩) ?_ ?_
 rotate_left
 ·intro w'
  go_simp
  with_reducible rfl
 rotate_left
 ·simp only [Act.put, List.setIfInBounds_toArray, List.set_cons_zero, List.set_cons_succ, i64_w, i32_w]
  rfl
 refine pure_ (i := 10) (N := (some 46)) (v := ?_) (a' := ?_) #[true, true, true, true, true, true, true, true, true, true, true, false] rfl rfl (by kernel_rfl) (fun _ _ _ h => h) (Or.inl ⟨by rfl, ?_⟩) ?_ ?_
 rotate_left
 ·intro w'
  go_simp
  with_reducible rfl
 rotate_left
 ·simp only [Act.put, List.setIfInBounds_toArray, List.set_cons_zero, List.set_cons_succ, i64_w, i32_w]
  rfl
 refine pure_ (i := 11) (N := (some 47)) (v := ?_) (a' := ?_) #[true, true, true, true, true, true, true, true, true, true, true, true] rfl rfl (by kernel_rfl) (fun _ _ _ h => h) (Or.inl ⟨by rfl, ?_⟩) ?_ ?_
 rotate_left
 ·intro w'
  go_simp
  with_reducible rfl
 rotate_left
 ·simp only [Act.put, List.setIfInBounds_toArray, List.set_cons_zero, List.set_cons_succ, i64_w, i32_w]
  rfl
 refine done_ (by kernel_rfl) ?_
 clear hH
 cases q5 : decide (64 < (sfound l ⟨x0, x1⟩ d).1.length + (sfound l ⟨x0, x1⟩ d).2.length) with
 | true =>
  have hr : srootsIn l ⟨x0, x1⟩ d = ([], [], 5) := by unfold srootsIn; rw [q1, q2, q3, q5]; rfl
  have hcnt : decide (64 < ((sfound l ⟨x0, x1⟩ d).1.length : Int) + ((sfound l ⟨x0, x1⟩ d).2.length : Int)) = true := decide_eq_true (by have := of_decide_eq_true q5; omega)
  have q5' := of_decide_eq_true q5
  go_wp2
  go_ret3
  rw [hr]
  exact ⟨_, _, rfl, Kd.R_nil _ _ _ _ _, Kd.R_nil _ _ _ _ _, fun k hk => by simp [Value.ownBlock] at hk, below_step hF7.below qb⟩
 | false =>
  have hr : srootsIn l ⟨x0, x1⟩ d = ((sfound l ⟨x0, x1⟩ d).1, (sfound l ⟨x0, x1⟩ d).2, 0) := by unfold srootsIn; rw [q1, q2, q3, q5]; rfl
  have hcnt : decide (64 < ((sfound l ⟨x0, x1⟩ d).1.length : Int) + ((sfound l ⟨x0, x1⟩ d).2.length : Int)) = false := decide_eq_false (by have := of_decide_eq_false q5; omega)
  have q5' := of_decide_eq_false q5
  go_wp2
  refine start_ (n := 15) (S := fun w' => w'.cell? ⟨g, 2, none⟩ = some (.slice a2 (sfound l ⟨x0, x1⟩ d).1.length n2) ∧ w'.cell? ⟨g, 3, none⟩ = some (.slice a3 (sfound l ⟨x0, x1⟩ d).2.length n3)) (ds := []) #[false, false, false, false, false, false, false, false, false, false, false, false, false, false, false] (by kernel_rfl) rfl rfl (⟨(blk_cell hF7.blk 2).trans rfl, (blk_cell hF7.blk 3).trans rfl⟩) (fun hH => ?_)
  replace hF7 := hF7.drew
  generalize World.drew _ = ws at hF7 hH ⊢
  have hold := hF7.old
  refine pure_ (i := 1) (N := (some 49)) (v := ?_) (a' := ?_) #[false, true, false, false, false, false, false, false, false, false, false, false, false, false, false] rfl rfl (by kernel_rfl) (fun _ _ _ h => h) (Or.inl ⟨by rfl, ?_⟩) ?_ ?_
  rotate_left
  ·intro w'
   go_simp
   with_reducible rfl
  rotate_left
  ·simp only [Act.put, List.setIfInBounds_toArray, List.set_cons_zero, List.set_cons_succ, i64_w, i32_w]
   rfl
  refine pure_ (i := 2) (N := (some 50)) (v := ?_) (a' := ?_) #[false, true, true, false, false, false, false, false, false, false, false, false, false, false, false] rfl rfl (by kernel_rfl) (fun _ _ _ h => h) (Or.inl ⟨by rfl, ?_⟩) ?_ ?_
  rotate_left
  ·intro w'
   go_simp
   with_reducible rfl
  rotate_left
  ·simp only [Act.put, List.setIfInBounds_toArray, List.set_cons_zero, List.set_cons_succ, i64_w, i32_w]
   rfl
  refine pure_ (i := 3) (N := (some 51)) (v := ?_) (a' := ?_) #[false, true, true, true, false, false, false, false, false, false, false, false, false, false, false] rfl rfl (by kernel_rfl) (fun _ _ _ h => h) (Or.inl ⟨by rfl, ?_⟩) ?_ ?_
  rotate_left
  ·intro w'
   go_simp
   with_reducible rfl
  rotate_left
  ·simp only [Act.put, List.setIfInBounds_toArray, List.set_cons_zero, List.set_cons_succ, i64_w, i32_w]
   rfl
  refine take_ (i := 4) (N := (some 52)) (v := ?_) (a' := ?_) #[false, true, true, true, true, false, false, false, false, false, false, false, false, false, false] rfl rfl (by kernel_rfl) (fun _ _ _ h => h) (Or.inl ⟨by rfl, ?_⟩) hH ?_ ?_
  rotate_left
  ·rintro w' ⟨s0, s1⟩
   go_simp
   with_reducible rfl
  rotate_left
  ·simp only [Act.put, List.setIfInBounds_toArray, List.set_cons_zero, List.set_cons_succ, i64_w, i32_w]
   rfl
  refine pure_ (i := 7) (N := (some 55)) (v := ?_) (a' := ?_) #[false, true, true, true, true, false, false, true, false, false, false, false, false, false, false] rfl rfl (by kernel_rfl) (fun _ _ _ h => h) (Or.inl ⟨by rfl, ?_⟩) ?_ ?_
  rotate_left
  ·intro w'
   go_simp
   with_reducible rfl
  rotate_left
  ·simp only [Act.put, List.setIfInBounds_toArray, List.set_cons_zero, List.set_cons_succ, i64_w, i32_w]
   rfl
  refine pure_ (i := 8) (N := (some 56)) (v := ?_) (a' := ?_) #[false, true, true, true, true, false, false, true, true, false, false, false, false, false, false] rfl rfl (by kernel_rfl) (fun _ _ _ h => h) (Or.inl ⟨by rfl, ?_⟩) ?_ ?_
  rotate_left
  ·intro w'
   go_simp
   with_reducible rfl
  rotate_left
  ·simp only [Act.put, List.setIfInBounds_toArray, List.set_cons_zero, List.set_cons_succ, i64_w, i32_w]
   rfl
  refine pure_ (i := 9) (N := (some 57)) (v := ?_) (a' := ?_) #[false, true, true, true, true, false, false, true, true, true, false, false, false, false, false] rfl rfl (by kernel_rfl) (fun _ _ _ h => h) (Or.inl ⟨by rfl, ?_⟩) ?_ ?_
  rotate_left
  ·intro w'
   go_simp
   with_reducible rfl
  rotate_left
  ·simp only [Act.put, List.setIfInBounds_toArray, List.set_cons_zero, List.set_cons_succ, i64_w, i32_w]
   rfl
  refine take_ (i := 10) (N := (some 58)) (v := ?_) (a' := ?_) #[false, true, true, true, true, false, false, true, true, true, true, false, false, false, false] rfl rfl (by kernel_rfl) (fun _ _ _ h => h) (Or.inl ⟨by rfl, ?_⟩) hH ?_ ?_
  rotate_left
  ·rintro w' ⟨s0, s1⟩
   go_simp
   with_reducible rfl
  rotate_left
  ·simp only [Act.put, List.setIfInBounds_toArray, List.set_cons_zero, List.set_cons_succ, i64_w, i32_w]
   rfl
  refine join_ (σ := Value × Value × Value) 4 #[true, true, true, true, true, true, true, true, true, true, true, false, false, false, false] (fun (s : Value × Value × Value) => [(48, s.1), (53, s.2.1), (54, s.2.2)]) (fun (s : Value × Value × Value) w' => Fin 47 w w' g pl ps (Go.G880.spec_PolyDerivative l).1.reverse (.slice a2 (sfound l ⟨x0, x1⟩ d).1.length n2) (.slice a3 (sfound l ⟨x0, x1⟩ d).2.length n3) (sfound l ⟨x0, x1⟩ d).1 (sfound l ⟨x0, x1⟩ d).2 ∧ kIv.R 35 w' w.heap.size (fun _ => True) s.2.1 (sfound l ⟨x0, x1⟩ d).1 ∧ kIv.R 35 w' w.heap.size (fun _ => True) s.2.2 [] ∧ (∀ k, s.2.1.ownBlock = some k → s.2.2.ownBlock ≠ some k) ∧ (∀ k, s.2.1.ownBlock = some k → ws.heap.size ≤ k) ∧ (∀ k, s.2.2.ownBlock = some k → ws.heap.size ≤ k)) ?_ ?_
  ·rintro ⟨v48, v53, v54⟩ w8 ⟨hF8, h53, h54, hd, hn53, hn54⟩
   refine norm_ (a' := ?_) ?_ ?_
   rotate_left
   ·simp only [putAll, Act.put, List.setIfInBounds_toArray, List.set_cons_zero, List.set_cons_succ, i64_w, i32_w]
    rfl
   refine one_ (i := 11) (N := (some 59)) #[true, true, true, true, true, true, true, true, true, true, true, true, false, false, false] rfl rfl (by kernel_rfl) (by decide) (fun K hK => ?_)
   obtain ⟨A_, c_, ea_, hle_, hC_⟩ := Kd.R_reads hF8.v
   cases ea_
   refine Kd.R_append_rows_step kIv (w0 := w) w.heap.size (by rfl) (.tmp 54) (.tmp 58) 24 35 (.agg #[.int .i64 0, .int .i64 0]) 16 rfl hu24 info35_ rfl (by decide) (by decide) v54 [] (sfound l ⟨x0, x1⟩ d).2 _ _ _ (fun _ => True) (fun _ => False) rfl rfl h54 hC_ (fun _ _ h => kIv_KM h) (fun _ h => h.elim) (fun _ _ => trivial) hF8.below hF8.below.size (by simp; omega) ?_
   intro v59 w9 h59 hba hga hata
   have hF := hF8.grown hold hba hga hn54
   replace h59 : kIv.R 35 w9 w.heap.size (fun _ => True) v59 (sfound l ⟨x0, x1⟩ d).2 := h59
   have hd5 : ∀ k, v53.ownBlock = some k → v59.ownBlock ≠ some k := by
    intro k hk e
    rcases hata with e2 | ⟨b, e2, hle⟩
    ·exact hd k hk (e2 ▸ e)
    ·rw [e2] at e
     cases e
     have := own_lt_ h53 hk
     omega
   replace h53 := row_grown h53 hga hd
   refine hK.out _ _ ⟨(blk_cell hF.blk 2).trans rfl, (blk_cell hF.blk 3).trans rfl⟩ (fun hH => ?_)
   clear hK K
   refine norm_ (a' := ?_) ?_ ?_
   rotate_left
   ·show Act.put _ (some 59) _ = _
    simp only [putAll, Act.put, List.setIfInBounds_toArray, List.set_cons_zero, List.set_cons_succ, i64_w, i32_w]
    rfl
   refine pure_ (i := 12) (N := (some 6)) (v := ?_) (a' := ?_) #[true, true, true, true, true, true, true, true, true, true, true, true, true, false, false] rfl rfl (by kernel_rfl) (fun _ _ _ h => h) (Or.inl ⟨by rfl, ?_⟩) ?_ ?_
   rotate_left
   ·intro w'
    go_simp
    with_reducible rfl
   rotate_left
   ·simp only [Act.put, List.setIfInBounds_toArray, List.set_cons_zero, List.set_cons_succ, i64_w, i32_w]
    rfl
   refine pure_ (i := 13) (N := (some 7)) (v := ?_) (a' := ?_) #[true, true, true, true, true, true, true, true, true, true, true, true, true, true, false] rfl rfl (by kernel_rfl) (fun _ _ _ h => h) (Or.inl ⟨by rfl, ?_⟩) ?_ ?_
   rotate_left
   ·intro w'
    go_simp
    with_reducible rfl
   rotate_left
   ·simp only [Act.put, List.setIfInBounds_toArray, List.set_cons_zero, List.set_cons_succ, i64_w, i32_w]
    rfl
   refine pure_ (i := 14) (N := (some 8)) (v := ?_) (a' := ?_) #[true, true, true, true, true, true, true, true, true, true, true, true, true, true, true] rfl rfl (by kernel_rfl) (fun _ _ _ h => h) (Or.inl ⟨by rfl, ?_⟩) ?_ ?_
   rotate_left
   ·intro w'
    go_simp
    with_reducible rfl
   rotate_left
   ·simp only [Act.put, List.setIfInBounds_toArray, List.set_cons_zero, List.set_cons_succ, i64_w, i32_w]
    rfl
   refine done_ (by kernel_rfl) ?_
   go_wp2
   go_ret3
   try rw [hr]
   exact ⟨_, _, rfl, h53, h59, hd5, below_step hF.below qb⟩
  intro hjoin
  refine two_ (i := 0) (j := 6) (Ni := some 48) (Nj := some 54) #[true, true, true, true, true, false, false, true, true, true, true, false, false, false, false] #[false, true, true, true, true, false, true, true, true, true, true, false, false, false, false] rfl rfl rfl rfl (by kernel_rfl) (by decide) (by decide) (fun K hK => ?_) (fun K hK => ?_)
  ·refine Kd.R_lit_step kIv (w0 := w) w.heap.size 35 (by rfl) rfl (xs := ([] : List Iv)) (inner := []) (ok := fun _ => True) (okp := fun _ => True) (by first | (go_simp; done) | (go_simp; rfl)) (Reps.none _ _) (fun _ hk => hk) trivial hF7.below hF7.below.size (by simp) ?_
   intro v48 w8 h48 hbl hgl hnew
   have hF8 := hF7.grown hold hbl hgl (fun k hk => by cases hk)
   obtain ⟨b_v48, eb_v48, hb_v48⟩ := hnew
   have hn48 : ∀ k, v48.ownBlock = some k → ws.heap.size ≤ k := fun k hk => by rw [eb_v48] at hk; cases hk; exact Nat.le_trans (Nat.le_refl _) hb_v48
   have hz_v48 := hgl.size
   refine hK.out _ _ ⟨(blk_cell hF8.blk 2).trans rfl, (blk_cell hF8.blk 3).trans rfl⟩ (fun hH => ?_)
   clear hK K
   refine norm_ (a' := ?_) ?_ ?_
   rotate_left
   ·show Act.put _ (some 48) _ = _
    simp only [putAll, Act.put, List.setIfInBounds_toArray, List.set_cons_zero, List.set_cons_succ, i64_w, i32_w]
    rfl
   refine two_ (i := 5) (j := 6) (Ni := some 53) (Nj := some 54) #[true, true, true, true, true, true, false, true, true, true, true, false, false, false, false] #[true, true, true, true, true, false, true, true, true, true, true, false, false, false, false] rfl rfl rfl rfl (by kernel_rfl) (by decide) (by decide) (fun K hK => ?_) (fun K hK => ?_)
   ·obtain ⟨A_, c_, ea_, hle_, hC_⟩ := Kd.R_reads hF8.u
    cases ea_
    refine Kd.R_append_rows_step kIv (w0 := w) w.heap.size (by rfl) (.tmp 48) (.tmp 52) 24 35 (.agg #[.int .i64 0, .int .i64 0]) 16 rfl hu24 info35_ rfl (by decide) (by decide) v48 [] (sfound l ⟨x0, x1⟩ d).1 _ _ _ (fun _ => True) (fun _ => False) rfl rfl h48 hC_ (fun _ _ h => kIv_KM h) (fun _ h => h.elim) (fun _ _ => trivial) hF8.below hF8.below.size (by simp; omega) ?_
    intro v53 w9 h53 hba hga hata
    have hF9 := hF8.grown hold hba hga hn48
    replace h53 : kIv.R 35 w9 w.heap.size (fun _ => True) v53 (sfound l ⟨x0, x1⟩ d).1 := h53
    have hn53 : ∀ k, v53.ownBlock = some k → ws.heap.size ≤ k := by
     intro k hk
     rcases hata with e2 | ⟨b, e2, hle⟩
     ·exact hn48 k (e2 ▸ hk)
     ·rw [e2] at hk
      cases hk
      exact Nat.le_trans hz_v48 hle
    refine hK.out _ _ ⟨(blk_cell hF9.blk 2).trans rfl, (blk_cell hF9.blk 3).trans rfl⟩ (fun hH => ?_)
    clear hK K
    refine norm_ (a' := ?_) ?_ ?_
    rotate_left
    ·show Act.put _ (some 53) _ = _
     simp only [putAll, Act.put, List.setIfInBounds_toArray, List.set_cons_zero, List.set_cons_succ, i64_w, i32_w]
     rfl
    refine one_ (i := 6) (N := (some 54)) #[true, true, true, true, true, true, true, true, true, true, true, false, false, false, false] rfl rfl (by kernel_rfl) (by decide) (fun K hK => ?_)
    refine Kd.R_lit_step kIv (w0 := w) w.heap.size 35 (by rfl) rfl (xs := ([] : List Iv)) (inner := []) (ok := fun _ => True) (okp := fun _ => True) (by first | (go_simp; done) | (go_simp; rfl)) (Reps.none _ _) (fun _ hk => hk) trivial hF9.below hF9.below.size (by simp) ?_
    intro v54 w10 h54 hbl hgl hnew
    have hFz := hF9.grown hold hbl hgl (fun k hk => by cases hk)
    obtain ⟨b_v54, eb_v54, hb_v54⟩ := hnew
    have hn54 : ∀ k, v54.ownBlock = some k → ws.heap.size ≤ k := fun k hk => by rw [eb_v54] at hk; cases hk; exact Nat.le_trans (Nat.le_trans hz_v48 hga.size) hb_v54
    have hz_v54 := hgl.size
    have hdd : ∀ k, v53.ownBlock = some k → v54.ownBlock ≠ some k := fun k hk e => by rw [eb_v54] at e; cases e; have := own_lt_ h53 hk; omega
    replace h53 := row_grown h53 hgl (fun k _ e => by cases e)
    refine hK.out _ _ ⟨(blk_cell hFz.blk 2).trans rfl, (blk_cell hFz.blk 3).trans rfl⟩ (fun hH => ?_)
    clear hK K
    refine norm_ (a' := ?_) ?_ ?_
    rotate_left
    ·show Act.put _ (some 54) _ = _
     simp only [putAll, Act.put, List.setIfInBounds_toArray, List.set_cons_zero, List.set_cons_succ, i64_w, i32_w]
     rfl
    refine norm_ ?_ (hjoin (v48, v53, v54) w10 ⟨hFz, h53, h54, hdd, hn53, hn54⟩)
    simp only [putAll, Act.put, List.setIfInBounds_toArray, List.set_cons_zero, List.set_cons_succ, i64_w, i32_w]
   ·refine Kd.R_lit_step kIv (w0 := w) w.heap.size 35 (by rfl) rfl (xs := ([] : List Iv)) (inner := []) (ok := fun _ => True) (okp := fun _ => True) (by first | (go_simp; done) | (go_simp; rfl)) (Reps.none _ _) (fun _ hk => hk) trivial hF8.below hF8.below.size (by simp) ?_
    intro v54 w9 h54 hbl hgl hnew
    have hF9 := hF8.grown hold hbl hgl (fun k hk => by cases hk)
    obtain ⟨b_v54, eb_v54, hb_v54⟩ := hnew
    have hn54 : ∀ k, v54.ownBlock = some k → ws.heap.size ≤ k := fun k hk => by rw [eb_v54] at hk; cases hk; exact Nat.le_trans hz_v48 hb_v54
    have hz_v54 := hgl.size
    have o48 : ∀ k, v48.ownBlock = some k → k < w8.heap.size := fun k hk => own_lt_ h48 hk
    replace h48 := row_grown h48 hgl (fun k _ e => by cases e)
    refine hK.out _ _ ⟨(blk_cell hF9.blk 2).trans rfl, (blk_cell hF9.blk 3).trans rfl⟩ (fun hH => ?_)
    clear hK K
    refine norm_ (a' := ?_) ?_ ?_
    rotate_left
    ·show Act.put _ (some 54) _ = _
     simp only [putAll, Act.put, List.setIfInBounds_toArray, List.set_cons_zero, List.set_cons_succ, i64_w, i32_w]
     rfl
    refine one_ (i := 5) (N := (some 53)) #[true, true, true, true, true, true, true, true, true, true, true, false, false, false, false] rfl rfl (by kernel_rfl) (by decide) (fun K hK => ?_)
    obtain ⟨A_, c_, ea_, hle_, hC_⟩ := Kd.R_reads hF9.u
    cases ea_
    refine Kd.R_append_rows_step kIv (w0 := w) w.heap.size (by rfl) (.tmp 48) (.tmp 52) 24 35 (.agg #[.int .i64 0, .int .i64 0]) 16 rfl hu24 info35_ rfl (by decide) (by decide) v48 [] (sfound l ⟨x0, x1⟩ d).1 _ _ _ (fun _ => True) (fun _ => False) rfl rfl h48 hC_ (fun _ _ h => kIv_KM h) (fun _ h => h.elim) (fun _ _ => trivial) hF9.below hF9.below.size (by simp; omega) ?_
    intro v53 w10 h53 hba hga hata
    have hFz := hF9.grown hold hba hga hn48
    replace h53 : kIv.R 35 w10 w.heap.size (fun _ => True) v53 (sfound l ⟨x0, x1⟩ d).1 := h53
    have hn53 : ∀ k, v53.ownBlock = some k → ws.heap.size ≤ k := by
     intro k hk
     rcases hata with e2 | ⟨b, e2, hle⟩
     ·exact hn48 k (e2 ▸ hk)
     ·rw [e2] at hk
      cases hk
      exact Nat.le_trans (Nat.le_trans hz_v48 hz_v54) hle
    have hdd : ∀ k, v53.ownBlock = some k → v54.ownBlock ≠ some k := by
     intro k hk e
     rcases hata with e2 | ⟨b, e2, hle⟩
     ·have := o48 k (e2 ▸ hk)
      rw [eb_v54] at e; cases e; omega
     ·rw [e2] at hk; cases hk
      have := own_lt_ h54 e
      omega
    replace h54 := row_grown h54 hga (fun k hk e => by have := o48 k e; rw [eb_v54] at hk; cases hk; omega)
    refine hK.out _ _ ⟨(blk_cell hFz.blk 2).trans rfl, (blk_cell hFz.blk 3).trans rfl⟩ (fun hH => ?_)
    clear hK K
    refine norm_ (a' := ?_) ?_ ?_
    rotate_left
    ·show Act.put _ (some 53) _ = _
     simp only [putAll, Act.put, List.setIfInBounds_toArray, List.set_cons_zero, List.set_cons_succ, i64_w, i32_w]
     rfl
    refine norm_ ?_ (hjoin (v48, v53, v54) w10 ⟨hFz, h53, h54, hdd, hn53, hn54⟩)
    simp only [putAll, Act.put, List.setIfInBounds_toArray, List.set_cons_zero, List.set_cons_succ, i64_w, i32_w]
  ·refine Kd.R_lit_step kIv (w0 := w) w.heap.size 35 (by rfl) rfl (xs := ([] : List Iv)) (inner := []) (ok := fun _ => True) (okp := fun _ => True) (by first | (go_simp; done) | (go_simp; rfl)) (Reps.none _ _) (fun _ hk => hk) trivial hF7.below hF7.below.size (by simp) ?_
   intro v54 w8 h54 hbl hgl hnew
   have hF8 := hF7.grown hold hbl hgl (fun k hk => by cases hk)
   obtain ⟨b_v54, eb_v54, hb_v54⟩ := hnew
   have hn54 : ∀ k, v54.ownBlock = some k → ws.heap.size ≤ k := fun k hk => by rw [eb_v54] at hk; cases hk; exact Nat.le_trans (Nat.le_refl _) hb_v54
   have hz_v54 := hgl.size
   refine hK.out _ _ ⟨(blk_cell hF8.blk 2).trans rfl, (blk_cell hF8.blk 3).trans rfl⟩ (fun hH => ?_)
   clear hK K
   refine norm_ (a' := ?_) ?_ ?_
   rotate_left
   ·show Act.put _ (some 54) _ = _
    simp only [putAll, Act.put, List.setIfInBounds_toArray, List.set_cons_zero, List.set_cons_succ, i64_w, i32_w]
    rfl
   refine one_ (i := 0) (N := (some 48)) #[true, true, true, true, true, false, true, true, true, true, true, false, false, false, false] rfl rfl (by kernel_rfl) (by decide) (fun K hK => ?_)
   refine Kd.R_lit_step kIv (w0 := w) w.heap.size 35 (by rfl) rfl (xs := ([] : List Iv)) (inner := []) (ok := fun _ => True) (okp := fun _ => True) (by first | (go_simp; done) | (go_simp; rfl)) (Reps.none _ _) (fun _ hk => hk) trivial hF8.below hF8.below.size (by simp) ?_
   intro v48 w9 h48 hbl hgl hnew
   have hF9 := hF8.grown hold hbl hgl (fun k hk => by cases hk)
   obtain ⟨b_v48, eb_v48, hb_v48⟩ := hnew
   have hn48 : ∀ k, v48.ownBlock = some k → ws.heap.size ≤ k := fun k hk => by rw [eb_v48] at hk; cases hk; exact Nat.le_trans hz_v54 hb_v48
   have hz_v48 := hgl.size
   have o54 : ∀ k, v54.ownBlock = some k → k < w8.heap.size := fun k hk => own_lt_ h54 hk
   replace h54 := row_grown h54 hgl (fun k _ e => by cases e)
   refine hK.out _ _ ⟨(blk_cell hF9.blk 2).trans rfl, (blk_cell hF9.blk 3).trans rfl⟩ (fun hH => ?_)
   clear hK K
   refine norm_ (a' := ?_) ?_ ?_
   rotate_left
   ·show Act.put _ (some 48) _ = _
    simp only [putAll, Act.put, List.setIfInBounds_toArray, List.set_cons_zero, List.set_cons_succ, i64_w, i32_w]
    rfl
   refine one_ (i := 5) (N := (some 53)) #[true, true, true, true, true, true, true, true, true, true, true, false, false, false, false] rfl rfl (by kernel_rfl) (by decide) (fun K hK => ?_)
   obtain ⟨A_, c_, ea_, hle_, hC_⟩ := Kd.R_reads hF9.u
   cases ea_
   refine Kd.R_append_rows_step kIv (w0 := w) w.heap.size (by rfl) (.tmp 48) (.tmp 52) 24 35 (.agg #[.int .i64 0, .int .i64 0]) 16 rfl hu24 info35_ rfl (by decide) (by decide) v48 [] (sfound l ⟨x0, x1⟩ d).1 _ _ _ (fun _ => True) (fun _ => False) rfl rfl h48 hC_ (fun _ _ h => kIv_KM h) (fun _ h => h.elim) (fun _ _ => trivial) hF9.below hF9.below.size (by simp; omega) ?_
   intro v53 w10 h53 hba hga hata
   have hFz := hF9.grown hold hba hga hn48
   replace h53 : kIv.R 35 w10 w.heap.size (fun _ => True) v53 (sfound l ⟨x0, x1⟩ d).1 := h53
   have hn53 : ∀ k, v53.ownBlock = some k → ws.heap.size ≤ k := by
    intro k hk
    rcases hata with e2 | ⟨b, e2, hle⟩
    ·exact hn48 k (e2 ▸ hk)
    ·rw [e2] at hk
     cases hk
     exact Nat.le_trans (Nat.le_trans hz_v54 hz_v48) hle
   have hdd : ∀ k, v53.ownBlock = some k → v54.ownBlock ≠ some k := by
    intro k hk e
    have := o54 k e
    rcases hata with e2 | ⟨b, e2, hle⟩
    ·rw [e2, eb_v48] at hk; cases hk; omega
    ·rw [e2] at hk; cases hk
     omega
   replace h54 := row_grown h54 hga (fun k hk e => by have := o54 k hk; rw [eb_v48] at e; cases e; omega)
   refine hK.out _ _ ⟨(blk_cell hFz.blk 2).trans rfl, (blk_cell hFz.blk 3).trans rfl⟩ (fun hH => ?_)
   clear hK K
   refine norm_ (a' := ?_) ?_ ?_
   rotate_left
   ·show Act.put _ (some 53) _ = _
    simp only [putAll, Act.put, List.setIfInBounds_toArray, List.set_cons_zero, List.set_cons_succ, i64_w, i32_w]
    rfl
   refine norm_ ?_ (hjoin (v48, v53, v54) w10 ⟨hFz, h53, h54, hdd, hn53, hn54⟩)
   simp only [putAll, Act.put, List.setIfInBounds_toArray, List.set_cons_zero, List.set_cons_succ, i64_w, i32_w]
end Go.Proofs.Ytmdicdkceekodaa.TX
