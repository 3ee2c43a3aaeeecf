/- The machine walks these functions as the plain functions say; written by a program of this session out of the translation. -/
import Derived.Test.YtogpbandlpjccaaGreatDoorWW
import Derived.Test.YtogpbandlpjccaaGreatDoorProg
namespace Go.Proofs.YtogpbandlpjccaaGreatDoor.TX
open Go.RowKit Go.Proofs.YtogpbandlpjccaaGreatDoorW.PrintWords Go.Proofs.YtogpbandlpjccaaGreatDoorW.PrintLast
set_option linter.unusedVariables false
set_option linter.unusedSimpArgs false
def errW : Option Int → Value
 | none => .nilIface
 | some c => .iface 0 (.int .i64 c)
theorem errW_none : errW none = .nilIface := rfl
theorem errW_some (c : Int) : errW (some c) = .iface 0 (.int .i64 c) := rfl
def IsS106 (hd : Option Addr × Nat) (w0 W : World) (g : Nat) (f0 : List Int) (f1 : Int) (f2 : Int) : Prop := ∃ A0 c0, W.heap[g]? = some (.cells #[.slice A0 f0.length c0, .int .i64 f1, .int .u64 f2] 106 (0, 0)) ∧ w0.heap.size ≤ g ∧ Kd.C (Kd.int .u8) w0 A0 f0.length f0 ∧ (A0, c0) = hd
theorem IsS106.grown {hd : Option Addr × Nat} {w0 W : World} {g : Nat} {f0 : List Int} {f1 : Int} {f2 : Int} {W1 : World} {row : Option Nat} (h : IsS106 hd w0 W g f0 f1 f2) (hw : W.grownBy W1 row) (hne : some g ≠ row) : IsS106 hd w0 W1 g f0 f1 f2 := by
 obtain ⟨A0, c0, hb, hg, hr0⟩ := h
 exact ⟨A0, c0, blk_grown hb hw hne, hg, hr0⟩
theorem IsS106.below {hd : Option Addr × Nat} {w0 W : World} {g : Nat} {f0 : List Int} {f1 : Int} {f2 : Int} {W1 : World} (h : IsS106 hd w0 W g f0 f1 f2) (hw : Below W.heap.size W W1) : IsS106 hd w0 W1 g f0 f1 f2 := h.grown (grown_of_below hw none) (by simp)
theorem IsS106.alloc {hd : Option Addr × Nat} {w0 W : World} {g : Nat} {f0 : List Int} {f1 : Int} {f2 : Int} (h : IsS106 hd w0 W g f0 f1 f2) (o : Obj) : IsS106 hd w0 (W.alloc o) g f0 f1 f2 := h.below (below_alloc (Below.refl _ _) o)
theorem IsS106.drewN {hd : Option Addr × Nat} {w0 W : World} {g : Nat} {f0 : List Int} {f1 : Int} {f2 : Int} (h : IsS106 hd w0 W g f0 f1 f2) (m : Nat) : IsS106 hd w0 (W.drewN m) g f0 f1 f2 := h
theorem IsS106.drew {hd : Option Addr × Nat} {w0 W : World} {g : Nat} {f0 : List Int} {f1 : Int} {f2 : Int} (h : IsS106 hd w0 W g f0 f1 f2) : IsS106 hd w0 W.drew g f0 f1 f2 := h
theorem IsS106.apart {hd : Option Addr × Nat} {w0 W : World} {g : Nat} {f0 : List Int} {f1 : Int} {f2 : Int} {α : Type} {d : Kd α} {e : Nat} {base : Nat} {ok : Nat → Prop} {v : Value} {xs : List α} (h : IsS106 hd w0 W g f0 f1 f2) (ho : d.R e W base ok v xs) (ht : ∀ q, q ∈ e :: d.E → q ≠ 106) : d.R e W base (fun k => ok k ∧ k ≠ g) v xs := by
 obtain ⟨A0, c0, hb, hg, hr0⟩ := h
 exact Kd.R_types ho hb ht
theorem IsS106.own_ne {hd : Option Addr × Nat} {w0 W : World} {g : Nat} {f0 : List Int} {f1 : Int} {f2 : Int} {α : Type} {d : Kd α} {e : Nat} {base : Nat} {ok : Nat → Prop} {v : Value} {xs : List α} (h : IsS106 hd w0 W g f0 f1 f2) (ho : d.R e W base ok v xs) (ht : e ≠ 106) : some g ≠ v.ownBlock := by
 obtain ⟨A0, c0, hb, hg, hr0⟩ := h
 exact Kd.R_ne ho hb ht
theorem IsS106.lt {hd : Option Addr × Nat} {w0 W : World} {g : Nat} {f0 : List Int} {f1 : Int} {f2 : Int} (h : IsS106 hd w0 W g f0 f1 f2) : g < W.heap.size := by
 obtain ⟨A0, c0, hb, hg, hr0⟩ := h
 exact blk_lt hb
theorem IsS106.ge {hd : Option Addr × Nat} {w0 W : World} {g : Nat} {f0 : List Int} {f1 : Int} {f2 : Int} (h : IsS106 hd w0 W g f0 f1 f2) : w0.heap.size ≤ g := by
 obtain ⟨A0, c0, hb, hg, hr0⟩ := h
 exact hg
theorem IsS106.ne_blk {hd : Option Addr × Nat} {w0 W : World} {g : Nat} {f0 : List Int} {f1 : Int} {f2 : Int} {a : Nat} {cs : Array Value} {t : TypeId} {fr : Nat × Nat} (h : IsS106 hd w0 W g f0 f1 f2) (hb2 : W.heap[a]? = some (.cells cs t fr)) (ht : t ≠ 106) : g ≠ a := by
 obtain ⟨A0, c0, hb, hg, hr0⟩ := h
 rintro rfl
 rw [hb] at hb2
 injection hb2 with hb2
 injection hb2 with _ ht2
 exact ht ht2.symm
theorem IsS106.far {hd : Option Addr × Nat} {w0 W : World} {g : Nat} {f0 : List Int} {f1 : Int} {f2 : Int} {p : Addr} (h : IsS106 hd w0 W g f0 f1 f2) (hne : g ≠ p.block) (u : Value) : IsS106 hd w0 (W.setCell p u) g f0 f1 f2 := by
 obtain ⟨A0, c0, hb, hg, hr0⟩ := h
 exact ⟨A0, c0, blk_far hb hne u, hg, hr0⟩
theorem cellS106_0 {W : World} {g : Nat} {A0 : Option Addr} {c0 : Nat} {f0 : List Int} {f1 : Int} {f2 : Int} (h : W.heap[g]? = some (.cells #[.slice A0 f0.length c0, .int .i64 f1, .int .u64 f2] 106 (0, 0))) : W.cell? ⟨g, 0, none⟩ = some (.slice A0 f0.length c0) := (blk_cell h 0).trans rfl
theorem cellS106_1 {W : World} {g : Nat} {A0 : Option Addr} {c0 : Nat} {f0 : List Int} {f1 : Int} {f2 : Int} (h : W.heap[g]? = some (.cells #[.slice A0 f0.length c0, .int .i64 f1, .int .u64 f2] 106 (0, 0))) : W.cell? ⟨g, 1, none⟩ = some (.int .i64 f1) := (blk_cell h 1).trans rfl
theorem IsS106.set_1 {hd : Option Addr × Nat} {w0 W : World} {g : Nat} {f0 : List Int} {f1 : Int} {f2 : Int} (h : IsS106 hd w0 W g f0 f1 f2) (x : Int) : IsS106 hd w0 (W.setCell ⟨g, 1, none⟩ (.int .i64 x)) g f0 x f2 := by
 obtain ⟨A0, c0, hb, hg, hr0⟩ := h
 exact ⟨A0, c0, by simpa using blk_set hb 1 (.int .i64 x), hg, hr0⟩
theorem cellS106_2 {W : World} {g : Nat} {A0 : Option Addr} {c0 : Nat} {f0 : List Int} {f1 : Int} {f2 : Int} (h : W.heap[g]? = some (.cells #[.slice A0 f0.length c0, .int .i64 f1, .int .u64 f2] 106 (0, 0))) : W.cell? ⟨g, 2, none⟩ = some (.int .u64 f2) := (blk_cell h 2).trans rfl
theorem IsS106.set_2 {hd : Option Addr × Nat} {w0 W : World} {g : Nat} {f0 : List Int} {f1 : Int} {f2 : Int} (h : IsS106 hd w0 W g f0 f1 f2) (x : Int) : IsS106 hd w0 (W.setCell ⟨g, 2, none⟩ (.int .u64 x)) g f0 f1 x := by
 obtain ⟨A0, c0, hb, hg, hr0⟩ := h
 exact ⟨A0, c0, by simpa using blk_set hb 2 (.int .u64 x), hg, hr0⟩
inductive Qs (S : List Nat) : World → World → Prop
 | n {W V : World} (m : Nat) (h : Qs S W V) : Qs S W (V.drewN m)
 | d {W V : World} (h : Qs S W V) : Qs S W V.drew
 | a {W V : World} (o : Obj) (h : Qs S W V) : Qs S W (V.alloc o)
 | s {W V : World} {b j : Nat} (u : Value) (hb : b ∈ S) (h : Qs S W V) : Qs S W (V.setCell ⟨b, j, none⟩ u)
 | r (W : World) : Qs S W W
inductive Al (p : Nat → Prop) : List Nat → Prop
 | n : Al p []
 | c {a : Nat} {l : List Nat} (h : p a) (t : Al p l) : Al p (a :: l)
theorem Al.at {p : Nat → Prop} {l : List Nat} (h : Al p l) {b : Nat} (hb : b ∈ l) : p b := by
 induction h with
 | n => cases hb
 | c h t ih =>
  cases hb with
  | head => exact h
  | tail _ hb => exact ih hb
theorem iq {S : List Nat} {hd : Option Addr × Nat} {w0 W V : World} {g : Nat} {f0 : List Int} {f1 f2 : Int} (h : IsS106 hd w0 W g f0 f1 f2) (hS : Al (g ≠ ·) S) (hq : Qs S W V := by repeat' (first | (with_reducible exact Qs.r _) | (with_reducible refine Qs.n _ ?_) | (with_reducible refine Qs.d ?_) | (with_reducible refine Qs.s _ (by simp) ?_) | (with_reducible refine Qs.a _ ?_))) : IsS106 hd w0 V g f0 f1 f2 := by
 induction hq with
 | n m _ ih => exact ih.drewN m
 | d _ ih => exact ih.drew
 | a o _ ih => exact ih.alloc o
 | s u hb _ ih => exact ih.far (hS.at hb) u
 | r => exact h
theorem kq {S : List Nat} {w W V : World} {g : Nat} (h : KeepBut w W g none) (hS : Al (w.heap.size ≤ ·) S) (hq : Qs S W V := by repeat' (first | (with_reducible exact Qs.r _) | (with_reducible refine Qs.n _ ?_) | (with_reducible refine Qs.d ?_) | (with_reducible refine Qs.s _ (by simp) ?_) | (with_reducible refine Qs.a _ ?_))) : KeepBut w V g none := by
 induction hq with
 | n m _ ih => exact keep_drewN ih m
 | d _ ih => exact ih
 | a o _ ih => exact keep_alloc ih o
 | s u hb _ ih => exact keep_far ih (hS.at hb) u
 | r => exact h
theorem bq {S : List Nat} {w W V : World} (h : Below w.heap.size w W) (hS : Al (w.heap.size ≤ ·) S) (hq : Qs S W V := by repeat' (first | (with_reducible exact Qs.r _) | (with_reducible refine Qs.n _ ?_) | (with_reducible refine Qs.d ?_) | (with_reducible refine Qs.s _ (by simp) ?_) | (with_reducible refine Qs.a _ ?_))) : Below w.heap.size w V := by
 induction hq with
 | n m _ ih => exact pw_below_drewN ih m
 | d _ ih => exact below_drew1 ih
 | a o _ ih => exact below_alloc ih o
 | s u hb _ ih => exact below_set ih (hS.at hb)
 | r => exact h
theorem hq {S : List Nat} {W V : World} {g : Nat} {t : TypeId} {cs : Array Value} (h : W.heap[g]? = some (.cells cs t (0, 0))) (hS : Al (g ≠ ·) S) (hq : Qs S W V := by repeat' (first | (with_reducible exact Qs.r _) | (with_reducible refine Qs.n _ ?_) | (with_reducible refine Qs.d ?_) | (with_reducible refine Qs.s _ (by simp) ?_) | (with_reducible refine Qs.a _ ?_))) : V.heap[g]? = some (.cells cs t (0, 0)) := by
 induction hq with
 | n m _ ih => exact blk_drewN ih m
 | d _ ih => exact ih
 | a o _ ih => exact blk_alloc ih o
 | s u hb _ ih => exact blk_far ih (hS.at hb) u
 | r => exact h
theorem hp {W V : World} {g : Nat} {t : TypeId} {cs : Array Value} (h : W.heap[g]? = some (.cells cs t (0, 0))) (q : Qs [] W V := by repeat' (first | (with_reducible refine Qs.n _ ?_) | (with_reducible refine Qs.d ?_) | (with_reducible refine Qs.a _ ?_) | exact Qs.r _)) : V.heap[g]? = some (.cells cs t (0, 0)) := hq h .n q
theorem h0 {W V : World} {g : Nat} {t : TypeId} {cs : Array Value} (h : W.heap[g]? = some (.cells cs t (0, 0))) (q : Qs [] W V := by repeat' (first | (with_reducible exact Qs.r _) | (with_reducible refine Qs.n _ ?_) | (with_reducible refine Qs.d ?_) | (with_reducible refine Qs.a _ ?_))) : V.heap[g]? = some (.cells cs t (0, 0)) := hq h .n q
theorem i0 {hd : Option Addr × Nat} {w0 W V : World} {g : Nat} {f0 : List Int} {f1 f2 : Int} (h : IsS106 hd w0 W g f0 f1 f2) (q : Qs [] W V := by repeat' (first | (with_reducible exact Qs.r _) | (with_reducible refine Qs.n _ ?_) | (with_reducible refine Qs.d ?_) | (with_reducible refine Qs.a _ ?_))) : IsS106 hd w0 V g f0 f1 f2 := iq h .n q
theorem k0 {w W V : World} {g : Nat} (h : KeepBut w W g none) (q : Qs [] W V := by repeat' (first | (with_reducible exact Qs.r _) | (with_reducible refine Qs.n _ ?_) | (with_reducible refine Qs.d ?_) | (with_reducible refine Qs.a _ ?_))) : KeepBut w V g none := kq h .n q
theorem b0 {w W V : World} (h : Below w.heap.size w W) (q : Qs [] W V := by repeat' (first | (with_reducible exact Qs.r _) | (with_reducible refine Qs.n _ ?_) | (with_reducible refine Qs.d ?_) | (with_reducible refine Qs.a _ ?_))) : Below w.heap.size w V := bq h .n q
theorem gl {P : Program} {ops : Array Oper} {Q : Exit → Act → World → Prop} {rest : List Oper} {oi : Oper} {a : Act} {w : World} (N : Option Tmp) (hd : oi.dst = N) (hg : oi.guard = none) {f : FuncId} {fn : Func} {xs : Array Operand} {ts : Array TypeId} (hf : P.funcs[f]? = some fn) (hname : (fn.name == "runtime.NumGoroutine") = false) (hb : fn.body.isSome = true) (args : Array Value)
  (hop : oi.op = .call { callee := .value (.func f), args := xs, argTypes := ts }) (h : Calls P f args w fun e w' => ∃ v, e = .returned v ∧ wpList P ops Q rest (a.put N v) w')
  (hargs : xs.map a.eval = args := by (try simp only [List.map_toArray, List.map_cons, List.map_nil]); first | done | rfl | (simp only [List.length_drop, List.length_take]; rfl)) : wpList P ops Q (oi :: rest) a w :=
 goesL_ N hd hg hf hname hb args hop hargs h
def spec_l00From.f (l0 : List Int) : Option (List Int × Int × Int) := some (l0, 0, 0)
set_option maxHeartbeats 8000000 in
set_option maxRecDepth 100000 in
theorem spec_l00From.calls (A0 : Option Addr) (c0 : Nat) (l0 : List Int) (r1 : List Int) (r2 : Int) (r3 : Int) (w0 w : World) (hB : Below w0.heap.size w0 w) (hr0 : Kd.C (Kd.int .u8) w0 A0 l0.length l0) (hc0 : l0.length ≤ c0) (h : spec_l00From.f l0 = some (r1, r2, r3)) :
  Calls Tryz.prog 54 #[.slice A0 l0.length c0] w fun e w' => ∃ g_ : Nat, e = .returned (.pointer (some ⟨g_, 0, none⟩)) ∧ IsS106 (A0, c0) w0 w' g_ r1 r2 r3 ∧ Below w0.heap.size w0 w' ∧ Below w.heap.size w w' := by
 have hu106 := Tryz.underlying106
 have HR0 := Aside0.mk hr0
 have HC0 := Aside0.mk hc0
 clear hr0 hc0
 have HBW := Aside0.mk (Below.refl w.heap.size w)
 have HW0 := Aside0.mk hB.size
 have HB := Aside0.mk hB
 clear hB
 have H : (some (l0, 0, 0)) = some (r1, r2, r3) := h
 clear h
 simp only [Option.some.injEq, Prod.mk.injEq] at H
 obtain ⟨rfl, rfl, rfl⟩ := H
 go_enter Tryz.func54, Tryz.ntmps54
 go_wp2_with (first | ((with_reducible refine gate_dst (N := 5) rfl ?_); refine box_event ?hg (N := 5) ?hd (cs := #[.slice A0 l0.length c0, .int .i64 0, .int .u64 0]) (t := 106) ?hr ?_; (case hd => rfl); (case hg => rfl); (case hr => first | (go_simp; done) | (go_simp; rfl)); intro gb101 hg w2 hbox hb; replace HB := Aside0.mk (below_step (b0 HB.out) hb); have BK101 := Aside0.mk (hbox); have GW101 := Aside0.mk ((by rw [hg]; exact (below_size (b0 HBW.out)) : w.heap.size ≤ gb101)); have GE101 := Aside0.mk ((Nat.le_trans HW0.out (by rw [hg]; exact (below_size (b0 HBW.out)) : w.heap.size ≤ gb101) : w0.heap.size ≤ gb101)); replace HBW := Aside0.mk (below_step HBW.out hb); clear hb hbox hg))
 go_ret
 exact ⟨_, rfl, (show IsS106 (A0, c0) w0 _ gb101 l0 0 0 from ⟨_, _, by exact h0 BK101.out, GE101.out, HR0.out, rfl⟩), bq HB.out (.c GE101.out .n), bq HBW.out (.c GW101.out .n)⟩
def spec_l00Src_next.f (s0_0 : List Int) (s0_1 : Int) (s0_2 : Int) : Option (Int × Int × Int) := if s0_1 < (s0_0.length : Int) then (if 0 ≤ s0_1 then (if (wrap64 (s0_1 + 1)) ≤ (s0_0.length : Int) then (some (wrap64 (rd s0_0 s0_1), wrap64 (s0_1 + 1), IntKind.u64.wrap ((IntKind.u64.wrap ((IntKind.u64.wrap (s0_2 * 6364136223846793005)) + (IntKind.u64.wrap (wrap64 (rd s0_0 s0_1))))) + 1442695040888963407))) else (some (wrap64 (Go.bits .and .u64 ((IntKind.u64.wrap ((IntKind.u64.wrap ((IntKind.u64.wrap (s0_2 * 6364136223846793005)) + (IntKind.u64.wrap (wrap64 (rd s0_0 s0_1))))) + 1442695040888963407)) / 1099511627776) 255), wrap64 (s0_1 + 1), IntKind.u64.wrap ((IntKind.u64.wrap ((IntKind.u64.wrap (s0_2 * 6364136223846793005)) + (IntKind.u64.wrap (wrap64 (rd s0_0 s0_1))))) + 1442695040888963407)))) else (none)) else (if (wrap64 (s0_1 + 1)) ≤ (s0_0.length : Int) then (some (0, wrap64 (s0_1 + 1), IntKind.u64.wrap ((IntKind.u64.wrap ((IntKind.u64.wrap (s0_2 * 6364136223846793005)) + 0)) + 1442695040888963407))) else (some (wrap64 (Go.bits .and .u64 ((IntKind.u64.wrap ((IntKind.u64.wrap ((IntKind.u64.wrap (s0_2 * 6364136223846793005)) + 0)) + 1442695040888963407)) / 1099511627776) 255), wrap64 (s0_1 + 1), IntKind.u64.wrap ((IntKind.u64.wrap ((IntKind.u64.wrap (s0_2 * 6364136223846793005)) + 0)) + 1442695040888963407))))
set_option maxHeartbeats 8000000 in
set_option maxRecDepth 100000 in
theorem spec_l00Src_next.calls (hd : Option Addr × Nat) (g : Nat) (s0_0 : List Int) (s0_1 : Int) (s0_2 : Int) (r1 : Int) (r2 : Int) (r3 : Int) (w0 w : World) (hI : IsS106 hd w0 w g s0_0 s0_1 s0_2) (hB : Below w0.heap.size w0 w) (h : spec_l00Src_next.f s0_0 s0_1 s0_2 = some (r1, r2, r3)) :
  Calls Tryz.prog 176 #[.pointer (some ⟨g, 0, none⟩)] w fun e w' => e = .returned (.int .i64 r1) ∧ IsS106 hd w0 w' g s0_0 r2 r3 ∧ Below w0.heap.size w0 w' ∧ KeepBut w w' g none := by
 have HI0 := Aside0.mk hI
 have HK := Aside0.mk (KeepBut.refl w g none)
 have HL := Aside0.mk hB.size
 clear hI
 have HW0 := Aside0.mk hB.size
 have HB := Aside0.mk hB
 clear hB
 have H : (if s0_1 < (s0_0.length : Int) then (if 0 ≤ s0_1 then (if (wrap64 (s0_1 + 1)) ≤ (s0_0.length : Int) then (some (wrap64 (rd s0_0 s0_1), wrap64 (s0_1 + 1), IntKind.u64.wrap ((IntKind.u64.wrap ((IntKind.u64.wrap (s0_2 * 6364136223846793005)) + (IntKind.u64.wrap (wrap64 (rd s0_0 s0_1))))) + 1442695040888963407))) else (some (wrap64 (Go.bits .and .u64 ((IntKind.u64.wrap ((IntKind.u64.wrap ((IntKind.u64.wrap (s0_2 * 6364136223846793005)) + (IntKind.u64.wrap (wrap64 (rd s0_0 s0_1))))) + 1442695040888963407)) / 1099511627776) 255), wrap64 (s0_1 + 1), IntKind.u64.wrap ((IntKind.u64.wrap ((IntKind.u64.wrap (s0_2 * 6364136223846793005)) + (IntKind.u64.wrap (wrap64 (rd s0_0 s0_1))))) + 1442695040888963407)))) else (none)) else (if (wrap64 (s0_1 + 1)) ≤ (s0_0.length : Int) then (some (0, wrap64 (s0_1 + 1), IntKind.u64.wrap ((IntKind.u64.wrap ((IntKind.u64.wrap (s0_2 * 6364136223846793005)) + 0)) + 1442695040888963407))) else (some (wrap64 (Go.bits .and .u64 ((IntKind.u64.wrap ((IntKind.u64.wrap ((IntKind.u64.wrap (s0_2 * 6364136223846793005)) + 0)) + 1442695040888963407)) / 1099511627776) 255), wrap64 (s0_1 + 1), IntKind.u64.wrap ((IntKind.u64.wrap ((IntKind.u64.wrap (s0_2 * 6364136223846793005)) + 0)) + 1442695040888963407))))) = some (r1, r2, r3) := h
 clear h
 by_cases c2 : s0_1 < (s0_0.length : Int)
 ·rw [if_pos c2] at H
  have c2b0 : decide (s0_1 < (s0_0.length : Int)) = true := decide_eq_true c2
  clear c2
  by_cases c3 : 0 ≤ s0_1
  ·rw [if_pos c3] at H
   have c3b0 : decide (0 ≤ s0_1) = true := decide_eq_true c3
   clear c3
   by_cases c4 : (wrap64 (s0_1 + 1)) ≤ (s0_0.length : Int)
   ·rw [if_pos c4] at H
    have c4b0 : decide ((wrap64 (s0_1 + 1)) ≤ (s0_0.length : Int)) = true := decide_eq_true c4
    clear c4
    simp only [Option.some.injEq, Prod.mk.injEq] at H
    obtain ⟨rfl, rfl, rfl⟩ := H
    obtain ⟨ASz5_0, cSz5_0, HGz5, hgz5, HSz5_0, _⟩ := HI0.out
    have hcz5_0 := cellS106_0 HGz5
    have hcz5_1 := cellS106_1 HGz5
    have hcz5_2 := cellS106_2 HGz5
    have hfz5_1 := blk_frozen HGz5 1
    have hfz5_2 := blk_frozen HGz5 2
    clear HGz5 hgz5
    have p102 : 0 ≤ (s0_1 : Int) := of_decide_eq_true (by first | (with_reducible assumption) | assumption)
    have q102 : s0_1 < (s0_0.length : Int) := of_decide_eq_true (by first | (with_reducible assumption) | assumption)
    obtain ⟨ad102, e102, hx102_0⟩ := Kd.at_int HSz5_0 s0_1 p102 q102
    cases e102
    replace hx102_0 := pw_cell_below HB.out hx102_0
    replace p102 := eq_true p102
    replace q102 := eq_true q102
    go_enter Tryz.func176, Tryz.ntmps176
    go_wp2
    repeat (go_quiet (fail); try go_wp2)
    go_ret
    exact ⟨by first | rfl | (simp [errW_none, errW_some] <;> rfl) | (simp [*, errW_none, errW_some] <;> rfl), by repeat (first | (with_reducible first | exact HI0.out | apply IsS106.alloc | apply IsS106.drewN | apply IsS106.drew | apply IsS106.set_1 | apply IsS106.set_2) | exact HI0.out), by repeat (first | (with_reducible first | exact HB.out | apply below_alloc | apply pw_below_drewN | apply below_drew1 | refine below_set ?_ (IsS106.ge HI0.out)) | exact HB.out), by repeat (first | (with_reducible first | exact HK.out | apply KeepBut.set_ | apply keep_drewN | apply keep_drew | apply keep_alloc) | exact HK.out)⟩
   ·rw [if_neg c4] at H
    have c4b0 : decide ((wrap64 (s0_1 + 1)) ≤ (s0_0.length : Int)) = false := decide_eq_false c4
    clear c4
    simp only [Option.some.injEq, Prod.mk.injEq] at H
    obtain ⟨rfl, rfl, rfl⟩ := H
    obtain ⟨ASz6_0, cSz6_0, HGz6, hgz6, HSz6_0, _⟩ := HI0.out
    have hcz6_0 := cellS106_0 HGz6
    have hcz6_1 := cellS106_1 HGz6
    have hcz6_2 := cellS106_2 HGz6
    have hfz6_1 := blk_frozen HGz6 1
    have hfz6_2 := blk_frozen HGz6 2
    clear HGz6 hgz6
    have p102 : 0 ≤ (s0_1 : Int) := of_decide_eq_true (by first | (with_reducible assumption) | assumption)
    have q102 : s0_1 < (s0_0.length : Int) := of_decide_eq_true (by first | (with_reducible assumption) | assumption)
    obtain ⟨ad102, e102, hx102_0⟩ := Kd.at_int HSz6_0 s0_1 p102 q102
    cases e102
    replace hx102_0 := pw_cell_below HB.out hx102_0
    replace p102 := eq_true p102
    replace q102 := eq_true q102
    go_enter Tryz.func176, Tryz.ntmps176
    go_wp2
    repeat (go_quiet (fail); try go_wp2)
    go_ret
    exact ⟨by first | rfl | (simp [errW_none, errW_some] <;> rfl) | (simp [*, errW_none, errW_some] <;> rfl), by repeat (first | (with_reducible first | exact HI0.out | apply IsS106.alloc | apply IsS106.drewN | apply IsS106.drew | apply IsS106.set_1 | apply IsS106.set_2) | exact HI0.out), by repeat (first | (with_reducible first | exact HB.out | apply below_alloc | apply pw_below_drewN | apply below_drew1 | refine below_set ?_ (IsS106.ge HI0.out)) | exact HB.out), by repeat (first | (with_reducible first | exact HK.out | apply KeepBut.set_ | apply keep_drewN | apply keep_drew | apply keep_alloc) | exact HK.out)⟩
  ·rw [if_neg c3] at H
   exact absurd H (by simp)
 ·rw [if_neg c2] at H
  have c2b0 : decide (s0_1 < (s0_0.length : Int)) = false := decide_eq_false c2
  clear c2
  by_cases c7 : (wrap64 (s0_1 + 1)) ≤ (s0_0.length : Int)
  ·rw [if_pos c7] at H
   have c7b0 : decide ((wrap64 (s0_1 + 1)) ≤ (s0_0.length : Int)) = true := decide_eq_true c7
   clear c7
   simp only [Option.some.injEq, Prod.mk.injEq] at H
   obtain ⟨rfl, rfl, rfl⟩ := H
   obtain ⟨ASz8_0, cSz8_0, HGz8, hgz8, HSz8_0, _⟩ := HI0.out
   have hcz8_0 := cellS106_0 HGz8
   have hcz8_1 := cellS106_1 HGz8
   have hcz8_2 := cellS106_2 HGz8
   have hfz8_1 := blk_frozen HGz8 1
   have hfz8_2 := blk_frozen HGz8 2
   clear HGz8 hgz8
   go_enter Tryz.func176, Tryz.ntmps176
   go_wp2
   repeat (go_quiet (fail); try go_wp2)
   go_ret
   (try simp only [Int.add_zero])
   exact ⟨by first | rfl | (simp [errW_none, errW_some] <;> rfl) | (simp [*, errW_none, errW_some] <;> rfl), by repeat (first | (with_reducible first | exact HI0.out | apply IsS106.alloc | apply IsS106.drewN | apply IsS106.drew | apply IsS106.set_1 | apply IsS106.set_2) | exact HI0.out), by repeat (first | (with_reducible first | exact HB.out | apply below_alloc | apply pw_below_drewN | apply below_drew1 | refine below_set ?_ (IsS106.ge HI0.out)) | exact HB.out), by repeat (first | (with_reducible first | exact HK.out | apply KeepBut.set_ | apply keep_drewN | apply keep_drew | apply keep_alloc) | exact HK.out)⟩
  ·rw [if_neg c7] at H
   have c7b0 : decide ((wrap64 (s0_1 + 1)) ≤ (s0_0.length : Int)) = false := decide_eq_false c7
   clear c7
   simp only [Option.some.injEq, Prod.mk.injEq] at H
   obtain ⟨rfl, rfl, rfl⟩ := H
   obtain ⟨ASz9_0, cSz9_0, HGz9, hgz9, HSz9_0, _⟩ := HI0.out
   have hcz9_0 := cellS106_0 HGz9
   have hcz9_1 := cellS106_1 HGz9
   have hcz9_2 := cellS106_2 HGz9
   have hfz9_1 := blk_frozen HGz9 1
   have hfz9_2 := blk_frozen HGz9 2
   clear HGz9 hgz9
   go_enter Tryz.func176, Tryz.ntmps176
   go_wp2
   repeat (go_quiet (fail); try go_wp2)
   go_ret
   (try simp only [Int.add_zero])
   exact ⟨by first | rfl | (simp [errW_none, errW_some] <;> rfl) | (simp [*, errW_none, errW_some] <;> rfl), by repeat (first | (with_reducible first | exact HI0.out | apply IsS106.alloc | apply IsS106.drewN | apply IsS106.drew | apply IsS106.set_1 | apply IsS106.set_2) | exact HI0.out), by repeat (first | (with_reducible first | exact HB.out | apply below_alloc | apply pw_below_drewN | apply below_drew1 | refine below_set ?_ (IsS106.ge HI0.out)) | exact HB.out), by repeat (first | (with_reducible first | exact HK.out | apply KeepBut.set_ | apply keep_drewN | apply keep_drew | apply keep_alloc) | exact HK.out)⟩
def spec_l00Src_pick.f (s0_0 : List Int) (s0_1 : Int) (s0_2 : Int) (a1 : Int) : Option (Int × Int × Int) := if a1 ≤ 1 then (some (0, s0_1, s0_2)) else ((spec_l00Src_next.f s0_0 s0_1 s0_2).bind fun bt103 => (if a1 > 200 then ((spec_l00Src_next.f s0_0 bt103.2.1 bt103.2.2).bind fun bt106 => (if a1 = 0 then (none) else (some (Int.tmod (wrap64 ((wrap64 (bt103.1 * 256)) + bt106.1)) a1, bt106.2.1, bt106.2.2)))) else (if a1 = 0 then (none) else (some (Int.tmod bt103.1 a1, bt103.2.1, bt103.2.2)))))
set_option maxHeartbeats 8000000 in
set_option maxRecDepth 100000 in
theorem spec_l00Src_pick.calls (hd : Option Addr × Nat) (g : Nat) (s0_0 : List Int) (s0_1 : Int) (s0_2 : Int) (a1 : Int) (r1 : Int) (r2 : Int) (r3 : Int) (w0 w : World) (hI : IsS106 hd w0 w g s0_0 s0_1 s0_2) (hB : Below w0.heap.size w0 w) (h : spec_l00Src_pick.f s0_0 s0_1 s0_2 a1 = some (r1, r2, r3)) :
  Calls Tryz.prog 118 #[.pointer (some ⟨g, 0, none⟩), .int .i64 a1] w fun e w' => e = .returned (.int .i64 r1) ∧ IsS106 hd w0 w' g s0_0 r2 r3 ∧ Below w0.heap.size w0 w' ∧ KeepBut w w' g none := by
 have HI0 := Aside0.mk hI
 have HK := Aside0.mk (KeepBut.refl w g none)
 have HL := Aside0.mk hB.size
 clear hI
 have HW0 := Aside0.mk hB.size
 have HB := Aside0.mk hB
 clear hB
 have H : (if a1 ≤ 1 then (some (0, s0_1, s0_2)) else ((spec_l00Src_next.f s0_0 s0_1 s0_2).bind fun bt103 => (if a1 > 200 then ((spec_l00Src_next.f s0_0 bt103.2.1 bt103.2.2).bind fun bt106 => (if a1 = 0 then (none) else (some (Int.tmod (wrap64 ((wrap64 (bt103.1 * 256)) + bt106.1)) a1, bt106.2.1, bt106.2.2)))) else (if a1 = 0 then (none) else (some (Int.tmod bt103.1 a1, bt103.2.1, bt103.2.2)))))) = some (r1, r2, r3) := h
 clear h
 by_cases c3 : a1 ≤ 1
 ·rw [if_pos c3] at H
  have c3b0 : decide (a1 ≤ 1) = true := decide_eq_true c3
  clear c3
  simp only [Option.some.injEq, Prod.mk.injEq] at H
  obtain ⟨rfl, rfl, rfl⟩ := H
  go_enter Tryz.func118, Tryz.ntmps118
  go_wp2
  go_ret
  exact ⟨rfl, i0 HI0.out, b0 HB.out, k0 HK.out⟩
 ·rw [if_neg c3] at H
  have c3b0 : decide (a1 ≤ 1) = false := decide_eq_false c3
  clear c3
  replace H := Option.bind_eq_some_iff.mp H
  obtain ⟨⟨t103, t104, t105⟩, A40, H⟩ := H
  replace H : (if a1 > 200 then ((spec_l00Src_next.f s0_0 t104 t105).bind fun bt106 => (if a1 = 0 then (none) else (some (Int.tmod (wrap64 ((wrap64 (t103 * 256)) + bt106.1)) a1, bt106.2.1, bt106.2.2)))) else (if a1 = 0 then (none) else (some (Int.tmod t103 a1, t104, t105)))) = some (r1, r2, r3) := H
  have A4 := Aside0.mk A40
  clear A40
  by_cases c5 : a1 > 200
  ·rw [if_pos c5] at H
   have c5b0 : decide (200 < a1) = true := decide_eq_true c5
   clear c5
   replace H := Option.bind_eq_some_iff.mp H
   obtain ⟨⟨t106, t107, t108⟩, A60, H⟩ := H
   replace H : (if a1 = 0 then (none) else (some (Int.tmod (wrap64 ((wrap64 (t103 * 256)) + t106)) a1, t107, t108))) = some (r1, r2, r3) := H
   have A6 := Aside0.mk A60
   clear A60
   by_cases c7 : a1 = 0
   ·rw [if_pos c7] at H
    exact absurd H (by simp)
   ·rw [if_neg c7] at H
    have c7b0 : (a1 == 0) = false := beq_eq_false_iff_ne.mpr c7
    have c7b1 : (a1 != 0) = true := bne_iff_ne.mpr c7
    simp only [Option.some.injEq, Prod.mk.injEq] at H
    obtain ⟨rfl, rfl, rfl⟩ := H
    go_enter Tryz.func118, Tryz.ntmps118
    go_wp2_with (first | ((with_reducible refine gate_callee (f := 176) rfl ?_); refine gl (some 9) rfl rfl Tryz.func176 (by kernel_rfl) rfl #[.pointer (some ⟨g, 0, none⟩)] rfl ?_; (with_reducible refine (spec_l00Src_next.calls hd g s0_0 s0_1 s0_2 t103 t104 t105 w0 _ ?side1 ?side2 A4.out).mono ?_); (case side1 => exact i0 HI0.out); (case side2 => exact b0 HB.out); rintro e w8 ⟨rfl, hi, hb, hk⟩; refine ⟨_, rfl, ?_⟩; replace HK := Aside0.mk (KeepBut.trans (k0 HK.out) hk (.inl rfl)); replace HB := Aside0.mk (hb); replace HI0 := Aside0.mk (hi); (try clear hb); (try clear hb2); (try clear hk); (try clear hi)) | ((with_reducible refine gate_callee (f := 176) rfl ?_); refine gl (some 15) rfl rfl Tryz.func176 (by kernel_rfl) rfl #[.pointer (some ⟨g, 0, none⟩)] rfl ?_; (with_reducible refine (spec_l00Src_next.calls hd g s0_0 t104 t105 t106 t107 t108 w0 _ ?side1 ?side2 A6.out).mono ?_); (case side1 => exact i0 HI0.out); (case side2 => exact b0 HB.out); rintro e w9 ⟨rfl, hi, hb, hk⟩; refine ⟨_, rfl, ?_⟩; replace HK := Aside0.mk (KeepBut.trans (k0 HK.out) hk (.inl rfl)); replace HB := Aside0.mk (hb); replace HI0 := Aside0.mk (hi); (try clear hb); (try clear hb2); (try clear hk); (try clear hi)))
    go_ret
    exact ⟨rfl, i0 HI0.out, b0 HB.out, k0 HK.out⟩
  ·rw [if_neg c5] at H
   have c5b0 : decide (200 < a1) = false := decide_eq_false c5
   clear c5
   by_cases c10 : a1 = 0
   ·rw [if_pos c10] at H
    exact absurd H (by simp)
   ·rw [if_neg c10] at H
    have c10b0 : (a1 == 0) = false := beq_eq_false_iff_ne.mpr c10
    have c10b1 : (a1 != 0) = true := bne_iff_ne.mpr c10
    simp only [Option.some.injEq, Prod.mk.injEq] at H
    obtain ⟨rfl, rfl, rfl⟩ := H
    go_enter Tryz.func118, Tryz.ntmps118
    go_wp2_with (first | ((with_reducible refine gate_callee (f := 176) rfl ?_); refine gl (some 9) rfl rfl Tryz.func176 (by kernel_rfl) rfl #[.pointer (some ⟨g, 0, none⟩)] rfl ?_; (with_reducible refine (spec_l00Src_next.calls hd g s0_0 s0_1 s0_2 t103 t104 t105 w0 _ ?side1 ?side2 A4.out).mono ?_); (case side1 => exact i0 HI0.out); (case side2 => exact b0 HB.out); rintro e w11 ⟨rfl, hi, hb, hk⟩; refine ⟨_, rfl, ?_⟩; replace HK := Aside0.mk (KeepBut.trans (k0 HK.out) hk (.inl rfl)); replace HB := Aside0.mk (hb); replace HI0 := Aside0.mk (hi); (try clear hb); (try clear hb2); (try clear hk); (try clear hi)))
    go_ret
    exact ⟨rfl, i0 HI0.out, b0 HB.out, k0 HK.out⟩
def spec_l00Src_among.f (s0_0 : List Int) (s0_1 : Int) (s0_2 : Int) (l1 : List Int) : Option (Int × Int × Int) := (spec_l00Src_pick.f s0_0 s0_1 s0_2 (l1.length : Int)).bind fun bt109 => (if 0 ≤ bt109.1 then (if bt109.1 < (l1.length : Int) then (some (rd l1 bt109.1, bt109.2.1, bt109.2.2)) else (none)) else (none))
set_option maxHeartbeats 8000000 in
set_option maxRecDepth 100000 in
theorem spec_l00Src_among.calls (hd : Option Addr × Nat) (g : Nat) (s0_0 : List Int) (s0_1 : Int) (s0_2 : Int) (A1 : Option Addr) (c1 : Nat) (l1 : List Int) (r1 : Int) (r2 : Int) (r3 : Int) (w0 w : World) (hI : IsS106 hd w0 w g s0_0 s0_1 s0_2) (hB : Below w0.heap.size w0 w) (hr1 : Kd.C (Kd.int .i64) w A1 l1.length l1) (hc1 : l1.length ≤ c1) (hf1 : ∀ ad, A1 = some ad → 0 < l1.length → ad.block ≠ g) (h : spec_l00Src_among.f s0_0 s0_1 s0_2 l1 = some (r1, r2, r3)) :
  Calls Tryz.prog 120 #[.pointer (some ⟨g, 0, none⟩), .slice A1 l1.length c1] w fun e w' => e = .returned (.int .i64 r1) ∧ IsS106 hd w0 w' g s0_0 r2 r3 ∧ Below w0.heap.size w0 w' ∧ KeepBut w w' g none := by
 have HR1 := Aside0.mk hr1
 have HC1 := Aside0.mk hc1
 clear hr1 hc1
 have HI0 := Aside0.mk hI
 have HK := Aside0.mk (KeepBut.refl w g none)
 have HL := Aside0.mk hB.size
 clear hI
 have HW0 := Aside0.mk hB.size
 have HB := Aside0.mk hB
 clear hB
 have H : ((spec_l00Src_pick.f s0_0 s0_1 s0_2 (l1.length : Int)).bind fun bt109 => (if 0 ≤ bt109.1 then (if bt109.1 < (l1.length : Int) then (some (rd l1 bt109.1, bt109.2.1, bt109.2.2)) else (none)) else (none))) = some (r1, r2, r3) := h
 clear h
 replace H := Option.bind_eq_some_iff.mp H
 obtain ⟨⟨t109, t110, t111⟩, A30, H⟩ := H
 replace H : (if 0 ≤ t109 then (if t109 < (l1.length : Int) then (some (rd l1 t109, t110, t111)) else (none)) else (none)) = some (r1, r2, r3) := H
 have A3 := Aside0.mk A30
 clear A30
 by_cases c4 : 0 ≤ t109
 ·rw [if_pos c4] at H
  have c4b0 : decide (0 ≤ t109) = true := decide_eq_true c4
  clear c4
  by_cases c5 : t109 < (l1.length : Int)
  ·rw [if_pos c5] at H
   have c5b0 : decide (t109 < (l1.length : Int)) = true := decide_eq_true c5
   clear c5
   simp only [Option.some.injEq, Prod.mk.injEq] at H
   obtain ⟨rfl, rfl, rfl⟩ := H
   go_enter Tryz.func120, Tryz.ntmps120
   go_wp2_with (first | ((with_reducible refine gate_callee (f := 118) rfl ?_); refine gl (some 9) rfl rfl Tryz.func118 (by kernel_rfl) rfl #[.pointer (some ⟨g, 0, none⟩), .int .i64 (l1.length : Int)] rfl ?_; (with_reducible refine (spec_l00Src_pick.calls hd g s0_0 s0_1 s0_2 (l1.length : Int) t109 t110 t111 w0 _ ?side1 ?side2 A3.out).mono ?_); (case side1 => exact i0 HI0.out); (case side2 => exact b0 HB.out); rintro e w6 ⟨rfl, hi, hb, hk⟩; refine ⟨_, rfl, ?_⟩; replace HK := Aside0.mk (KeepBut.trans (k0 HK.out) hk (.inl rfl)); replace HB := Aside0.mk (hb); replace HI0 := Aside0.mk (hi); (try clear hb); (try clear hb2); (try clear hk); (try clear hi); have p112 : 0 ≤ (t109 : Int) := of_decide_eq_true (by first | (with_reducible assumption) | assumption); have q112 : t109 < (l1.length : Int) := of_decide_eq_true (by first | (with_reducible assumption) | assumption); obtain ⟨ad112, e112, hx112_0⟩ := Kd.at_int HR1.out t109 p112 q112; cases e112; replace hx112_0 := keep_cell HK.out hx112_0 (by first | (rw [add_block]; exact hf1 _ rfl (by omega)) | exact hf1 _ rfl (by omega) | exact hf1 ad112 rfl (by omega)); replace p112 := eq_true p112; replace q112 := eq_true q112))
   go_ret
   exact ⟨rfl, i0 HI0.out, b0 HB.out, k0 HK.out⟩
  ·rw [if_neg c5] at H
   exact absurd H (by simp)
 ·rw [if_neg c4] at H
  exact absurd H (by simp)
def spec_l00Src_one.f (s0_0 : List Int) (s0_1 : Int) (s0_2 : Int) (a1 : Int) : Option (Bool × Int × Int) := (spec_l00Src_pick.f s0_0 s0_1 s0_2 a1).bind fun bt113 => (some ((bt113.1 == 0), bt113.2.1, bt113.2.2))
set_option maxHeartbeats 8000000 in
set_option maxRecDepth 100000 in
theorem spec_l00Src_one.calls (hd : Option Addr × Nat) (g : Nat) (s0_0 : List Int) (s0_1 : Int) (s0_2 : Int) (a1 : Int) (r1 : Bool) (r2 : Int) (r3 : Int) (w0 w : World) (hI : IsS106 hd w0 w g s0_0 s0_1 s0_2) (hB : Below w0.heap.size w0 w) (h : spec_l00Src_one.f s0_0 s0_1 s0_2 a1 = some (r1, r2, r3)) :
  Calls Tryz.prog 177 #[.pointer (some ⟨g, 0, none⟩), .int .i64 a1] w fun e w' => e = .returned (.bool r1) ∧ IsS106 hd w0 w' g s0_0 r2 r3 ∧ Below w0.heap.size w0 w' ∧ KeepBut w w' g none := by
 have HI0 := Aside0.mk hI
 have HK := Aside0.mk (KeepBut.refl w g none)
 have HL := Aside0.mk hB.size
 clear hI
 have HW0 := Aside0.mk hB.size
 have HB := Aside0.mk hB
 clear hB
 have H : ((spec_l00Src_pick.f s0_0 s0_1 s0_2 a1).bind fun bt113 => (some ((bt113.1 == 0), bt113.2.1, bt113.2.2))) = some (r1, r2, r3) := h
 clear h
 replace H := Option.bind_eq_some_iff.mp H
 obtain ⟨⟨t113, t114, t115⟩, A30, H⟩ := H
 replace H : (some ((t113 == 0), t114, t115)) = some (r1, r2, r3) := H
 have A3 := Aside0.mk A30
 clear A30
 simp only [Option.some.injEq, Prod.mk.injEq] at H
 obtain ⟨rfl, rfl, rfl⟩ := H
 go_enter Tryz.func177, Tryz.ntmps177
 go_wp2_with (first | ((with_reducible refine gate_callee (f := 118) rfl ?_); refine gl (some 7) rfl rfl Tryz.func118 (by kernel_rfl) rfl #[.pointer (some ⟨g, 0, none⟩), .int .i64 a1] rfl ?_; (with_reducible refine (spec_l00Src_pick.calls hd g s0_0 s0_1 s0_2 a1 t113 t114 t115 w0 _ ?side1 ?side2 A3.out).mono ?_); (case side1 => exact i0 HI0.out); (case side2 => exact b0 HB.out); rintro e w4 ⟨rfl, hi, hb, hk⟩; refine ⟨_, rfl, ?_⟩; replace HK := Aside0.mk (KeepBut.trans (k0 HK.out) hk (.inl rfl)); replace HB := Aside0.mk (hb); replace HI0 := Aside0.mk (hi); (try clear hb); (try clear hb2); (try clear hk); (try clear hi)))
 go_ret
 exact ⟨rfl, i0 HI0.out, b0 HB.out, k0 HK.out⟩
def spec_l05Number.l0 : Nat → Int → Int → Int → List Int → Int → Int → Option (Int × Int × Int)
 | 0, _, _, _, _, _, _ => none
 | k + 1, x1, x5, x6, x1000, x1001, x1002 => if x6 < 7 then ((spec_l00Src_next.f x1000 x1001 x1002).bind fun bt116 => (spec_l05Number.l0 k x1 (Go.bits .xor .i64 (wrap64 (x5 * 256)) bt116.1) (wrap64 (x6 + 1)) x1000 bt116.2.1 bt116.2.2)) else (if (wrap64 (x1 + 1)) = 0 then (none) else ((spec_l00Src_pick.f x1000 x1001 x1002 5).bind fun bt119 => (if bt119.1 = 0 then ((spec_l00Src_pick.f x1000 bt119.2.1 bt119.2.2 40).bind fun bt122 => (if 0 ≤ (IntKind.u64.wrap (bt122.1)) then ((spec_l00Src_one.f x1000 bt122.2.1 bt122.2.2 2).bind fun bt125 => (if bt125.1 = true then (some (wrap64 (-(shr .i64 (Int.tmod x5 (wrap64 (x1 + 1))) (IntKind.u64.wrap (bt122.1)))), bt125.2.1, bt125.2.2)) else (some (shr .i64 (Int.tmod x5 (wrap64 (x1 + 1))) (IntKind.u64.wrap (bt122.1)), bt125.2.1, bt125.2.2)))) else (none))) else (if bt119.1 = 1 then ((spec_l00Src_among.f x1000 bt119.2.1 bt119.2.2 (([0, 1, x1, wrap64 (Int.tdiv x1 2)] : List Int))).bind fun bt131 => ((spec_l00Src_one.f x1000 bt131.2.1 bt131.2.2 2).bind fun bt134 => (if bt134.1 = true then (some (wrap64 (-bt131.1), bt134.2.1, bt134.2.2)) else (some (bt131.1, bt134.2.1, bt134.2.2))))) else ((spec_l00Src_one.f x1000 bt119.2.1 bt119.2.2 2).bind fun bt137 => (if bt137.1 = true then (some (wrap64 (-(Int.tmod x5 (wrap64 (x1 + 1)))), bt137.2.1, bt137.2.2)) else (some (Int.tmod x5 (wrap64 (x1 + 1)), bt137.2.1, bt137.2.2))))))))
def spec_l05Number.f (k : Nat) (s0_0 : List Int) (s0_1 : Int) (s0_2 : Int) (a1 : Int) : Option (Int × Int × Int) := spec_l05Number.l0 k a1 0 0 s0_0 s0_1 s0_2
set_option maxHeartbeats 8000000 in
set_option maxRecDepth 100000 in
theorem spec_l05Number.calls (k : Nat) (hd : Option Addr × Nat) (g : Nat) (s0_0 : List Int) (s0_1 : Int) (s0_2 : Int) (a1 : Int) (r1 : Int) (r2 : Int) (r3 : Int) (w0 w : World) (hI : IsS106 hd w0 w g s0_0 s0_1 s0_2) (hB : Below w0.heap.size w0 w) (h : spec_l05Number.f k s0_0 s0_1 s0_2 a1 = some (r1, r2, r3)) :
  Calls Tryz.prog 121 #[.pointer (some ⟨g, 0, none⟩), .int .i64 a1] w fun e w' => e = .returned (.int .i64 r1) ∧ IsS106 hd w0 w' g s0_0 r2 r3 ∧ Below w0.heap.size w0 w' ∧ KeepBut w w' g none := by
 have HI0 := Aside0.mk hI
 have HK := Aside0.mk (KeepBut.refl w g none)
 have HL := Aside0.mk hB.size
 clear hI
 have HW0 := Aside0.mk hB.size
 have HB := Aside0.mk hB
 clear hB
 have H : (spec_l05Number.l0 k a1 0 0 s0_0 s0_1 s0_2) = some (r1, r2, r3) := h
 clear h
 have H' := Aside0.mk H
 clear H
 go_enter Tryz.func121, Tryz.ntmps121
 go_wp2
 go_loopg [5, 6] k (fun kq v5 v6 w' => ∃ (x5_1 : Int) (x6_1 : Int) (x1001_1 : Int) (x1002_1 : Int), v5 = .int .i64 x5_1 ∧ v6 = .int .i64 x6_1 ∧ Aside0 (spec_l05Number.l0 kq a1 x5_1 x6_1 s0_0 x1001_1 x1002_1 = some (r1, r2, r3)) ∧ Aside0 (kq ≤ k) ∧ Aside0 (IsS106 hd w0 w' g s0_0 x1001_1 x1002_1) ∧ Aside0 (KeepBut w w' g none) ∧ Aside0 (Below w0.heap.size w0 w'))
 case atStart => exact ⟨(0), (0), (s0_1), (s0_2), (by first | rfl | (simp; done) | (simp [*]; done)), (by first | rfl | (simp; done) | (simp [*]; done)), H', ⟨Nat.le_refl _⟩, ⟨i0 HI0.out⟩, ⟨k0 HK.out⟩, ⟨b0 HB.out⟩⟩
 case round =>
  clear H'
  try clear c1
  try clear p2
  obtain ⟨x5_1, x6_1, x1001_1, x1002_1, rfl, rfl, HA, HK1, HI0, HK, HB⟩ := hrel
  cases gk with
  | zero => exact absurd HA.out (by simp [spec_l05Number.l0])
  | succ k1 =>
   have H := HA.out
   clear HA
   simp only [spec_l05Number.l0] at H
   by_cases c3 : x6_1 < 7
   ·rw [if_pos c3] at H
    have c3b0 : decide (x6_1 < 7) = true := decide_eq_true c3
    clear c3
    replace H := Option.bind_eq_some_iff.mp H
    obtain ⟨⟨t116, t117, t118⟩, A40, H⟩ := H
    replace H : (spec_l05Number.l0 k1 a1 (Go.bits .xor .i64 (wrap64 (x5_1 * 256)) t116) (wrap64 (x6_1 + 1)) s0_0 t117 t118) = some (r1, r2, r3) := H
    have A4 := Aside0.mk A40
    clear A40
    have H' := Aside0.mk H
    clear H
    go_wp2_with (first | ((with_reducible refine gate_callee (f := 176) rfl ?_); refine gl (some 14) rfl rfl Tryz.func176 (by kernel_rfl) rfl #[.pointer (some ⟨g, 0, none⟩)] rfl ?_; (with_reducible refine (spec_l00Src_next.calls hd g s0_0 x1001_1 x1002_1 t116 t117 t118 w0 _ ?side1 ?side2 A4.out).mono ?_); (case side1 => exact i0 HI0.out); (case side2 => exact b0 HB.out); rintro e w5 ⟨rfl, hi, hb, hk⟩; refine ⟨_, rfl, ?_⟩; replace HK := Aside0.mk (KeepBut.trans (k0 HK.out) hk (.inl rfl)); replace HB := Aside0.mk (hb); replace HI0 := Aside0.mk (hi); (try clear hb); (try clear hb2); (try clear hk); (try clear hi)))
    go_roundg k1
    case measure => have := HK1.out; omega
    case rel => exact ⟨(Go.bits .xor .i64 (wrap64 (x5_1 * 256)) t116), (wrap64 (x6_1 + 1)), (t117), (t118), (by first | rfl | (simp; done) | (simp [*]; done)), (by first | rfl | (simp; done) | (simp [*]; done)), H', ⟨by have := HK1.out; omega⟩, ⟨i0 HI0.out⟩, ⟨k0 HK.out⟩, ⟨b0 HB.out⟩⟩
   ·rw [if_neg c3] at H
    have c3b0 : decide (x6_1 < 7) = false := decide_eq_false c3
    clear c3
    by_cases c6 : (wrap64 (a1 + 1)) = 0
    ·rw [if_pos c6] at H
     exact absurd H (by simp)
    ·rw [if_neg c6] at H
     have c6b0 : ((wrap64 (a1 + 1)) == 0) = false := beq_eq_false_iff_ne.mpr c6
     have c6b1 : ((wrap64 (a1 + 1)) != 0) = true := bne_iff_ne.mpr c6
     replace H := Option.bind_eq_some_iff.mp H
     obtain ⟨⟨t119, t120, t121⟩, A70, H⟩ := H
     replace H : (if t119 = 0 then ((spec_l00Src_pick.f s0_0 t120 t121 40).bind fun bt122 => (if 0 ≤ (IntKind.u64.wrap (bt122.1)) then ((spec_l00Src_one.f s0_0 bt122.2.1 bt122.2.2 2).bind fun bt125 => (if bt125.1 = true then (some (wrap64 (-(shr .i64 (Int.tmod x5_1 (wrap64 (a1 + 1))) (IntKind.u64.wrap (bt122.1)))), bt125.2.1, bt125.2.2)) else (some (shr .i64 (Int.tmod x5_1 (wrap64 (a1 + 1))) (IntKind.u64.wrap (bt122.1)), bt125.2.1, bt125.2.2)))) else (none))) else (if t119 = 1 then ((spec_l00Src_among.f s0_0 t120 t121 (([0, 1, a1, wrap64 (Int.tdiv a1 2)] : List Int))).bind fun bt131 => ((spec_l00Src_one.f s0_0 bt131.2.1 bt131.2.2 2).bind fun bt134 => (if bt134.1 = true then (some (wrap64 (-bt131.1), bt134.2.1, bt134.2.2)) else (some (bt131.1, bt134.2.1, bt134.2.2))))) else ((spec_l00Src_one.f s0_0 t120 t121 2).bind fun bt137 => (if bt137.1 = true then (some (wrap64 (-(Int.tmod x5_1 (wrap64 (a1 + 1)))), bt137.2.1, bt137.2.2)) else (some (Int.tmod x5_1 (wrap64 (a1 + 1)), bt137.2.1, bt137.2.2)))))) = some (r1, r2, r3) := H
     have A7 := Aside0.mk A70
     clear A70
     by_cases c8 : t119 = 0
     ·rw [if_pos c8] at H
      have c8b0 : (t119 == 0) = true := beq_iff_eq.mpr c8
      have c8b1 : (t119 != 0) = false := bne_eq_false_iff_eq.mpr c8
      clear c8
      replace H := Option.bind_eq_some_iff.mp H
      obtain ⟨⟨t122, t123, t124⟩, A90, H⟩ := H
      replace H : (if 0 ≤ (IntKind.u64.wrap (t122)) then ((spec_l00Src_one.f s0_0 t123 t124 2).bind fun bt125 => (if bt125.1 = true then (some (wrap64 (-(shr .i64 (Int.tmod x5_1 (wrap64 (a1 + 1))) (IntKind.u64.wrap (t122)))), bt125.2.1, bt125.2.2)) else (some (shr .i64 (Int.tmod x5_1 (wrap64 (a1 + 1))) (IntKind.u64.wrap (t122)), bt125.2.1, bt125.2.2)))) else (none)) = some (r1, r2, r3) := H
      have A9 := Aside0.mk A90
      clear A90
      obtain ⟨ji10, hji10⟩ : ∃ j_ : Int, (IntKind.u64.wrap (t122)) = j_ := ⟨_, rfl⟩
      replace H : (if 0 ≤ (ji10) then ((spec_l00Src_one.f s0_0 t123 t124 2).bind fun bt125 => (if bt125.1 = true then (some (wrap64 (-(shr .i64 (Int.tmod x5_1 (wrap64 (a1 + 1))) (ji10))), bt125.2.1, bt125.2.2)) else (some (shr .i64 (Int.tmod x5_1 (wrap64 (a1 + 1))) (ji10), bt125.2.1, bt125.2.2)))) else (none)) = some (r1, r2, r3) := by first | (rw [hji10] at H; exact H) | (simp only [hji10] at H ⊢; exact H)
      (try rw [hji10] at A7)
      (try rw [hji10] at A9)
      by_cases c11 : 0 ≤ (ji10)
      ·rw [if_pos c11] at H
       have c11b0 := eq_true c11
       have c11b1 : decide (0 ≤ (ji10)) = true := decide_eq_true c11
       clear c11
       obtain ⟨ji12, hji12⟩ : ∃ j_ : Int, (shr .i64 (Int.tmod x5_1 (wrap64 (a1 + 1))) (ji10)) = j_ := ⟨_, rfl⟩
       replace H : ((spec_l00Src_one.f s0_0 t123 t124 2).bind fun bt125 => (if bt125.1 = true then (some (wrap64 (-(ji12)), bt125.2.1, bt125.2.2)) else (some (ji12, bt125.2.1, bt125.2.2)))) = some (r1, r2, r3) := by first | (rw [hji12] at H; exact H) | (simp only [hji12] at H ⊢; exact H)
       (try rw [hji12] at A7)
       (try rw [hji12] at A9)
       have hji12_ : ((Int.tmod x5_1 (wrap64 (a1 + 1))) / 2 ^ min (ji10).toNat 64) = ji12 := hji12
       have hji12z : (ji10) ≤ 64 → ((Int.tmod x5_1 (wrap64 (a1 + 1))) / 2 ^ (ji10).toNat) = ji12 := shr_small hji12
       replace H := Option.bind_eq_some_iff.mp H
       obtain ⟨⟨t125, t126, t127⟩, A130, H⟩ := H
       replace H : (if t125 = true then (some (wrap64 (-(ji12)), t126, t127)) else (some (ji12, t126, t127))) = some (r1, r2, r3) := H
       have A13 := Aside0.mk A130
       clear A130
       by_cases c14 : t125 = true
       ·subst c14
        have H1 : (some (wrap64 (-(ji12)), t126, t127)) = some (r1, r2, r3) := by rw [if_pos rfl] at H; exact H
        clear H
        have H := H1
        clear H1
        simp only [Option.some.injEq, Prod.mk.injEq] at H
        obtain ⟨rfl, rfl, rfl⟩ := H
        go_wp2_with (first | ((with_reducible refine gate_callee (f := 118) rfl ?_); refine gl (some 21) rfl rfl Tryz.func118 (by kernel_rfl) rfl #[.pointer (some ⟨g, 0, none⟩), .int .i64 5] rfl ?_; (with_reducible refine (spec_l00Src_pick.calls hd g s0_0 x1001_1 x1002_1 5 t119 t120 t121 w0 _ ?side1 ?side2 A7.out).mono ?_); (case side1 => exact i0 HI0.out); (case side2 => exact b0 HB.out); rintro e w15 ⟨rfl, hi, hb, hk⟩; refine ⟨_, rfl, ?_⟩; replace HK := Aside0.mk (KeepBut.trans (k0 HK.out) hk (.inl rfl)); replace HB := Aside0.mk (hb); replace HI0 := Aside0.mk (hi); (try clear hb); (try clear hb2); (try clear hk); (try clear hi)) | ((with_reducible refine gate_callee (f := 118) rfl ?_); refine gl (some 26) rfl rfl Tryz.func118 (by kernel_rfl) rfl #[.pointer (some ⟨g, 0, none⟩), .int .i64 40] rfl ?_; (with_reducible refine (spec_l00Src_pick.calls hd g s0_0 t120 t121 40 t122 t123 t124 w0 _ ?side1 ?side2 A9.out).mono ?_); (case side1 => exact i0 HI0.out); (case side2 => exact b0 HB.out); rintro e w16 ⟨rfl, hi, hb, hk⟩; refine ⟨_, rfl, ?_⟩; replace HK := Aside0.mk (KeepBut.trans (k0 HK.out) hk (.inl rfl)); replace HB := Aside0.mk (hb); replace HI0 := Aside0.mk (hi); (try clear hb); (try clear hb2); (try clear hk); (try clear hi)) | ((with_reducible refine gate_callee (f := 177) rfl ?_); refine gl (some 38) rfl rfl Tryz.func177 (by kernel_rfl) rfl #[.pointer (some ⟨g, 0, none⟩), .int .i64 2] rfl ?_; (with_reducible refine (spec_l00Src_one.calls hd g s0_0 t123 t124 2 true t126 t127 w0 _ ?side1 ?side2 A13.out).mono ?_); (case side1 => exact i0 HI0.out); (case side2 => exact b0 HB.out); rintro e w17 ⟨rfl, hi, hb, hk⟩; refine ⟨_, rfl, ?_⟩; replace HK := Aside0.mk (KeepBut.trans (k0 HK.out) hk (.inl rfl)); replace HB := Aside0.mk (hb); replace HI0 := Aside0.mk (hi); (try clear hb); (try clear hb2); (try clear hk); (try clear hi)))
        go_ret
        exact ⟨by first | rfl | (simp [errW_none, errW_some] <;> rfl) | (simp only [← hji10, ← hji12]; first | rfl | (simp [errW_none, errW_some] <;> rfl)) | (simp [*, errW_none, errW_some] <;> rfl), i0 HI0.out, b0 HB.out, k0 HK.out⟩
       ·replace c14 := Bool.eq_false_iff.mpr c14
        subst c14
        have H1 : (some (ji12, t126, t127)) = some (r1, r2, r3) := by rw [if_neg (show ¬ (false = true) by decide)] at H; exact H
        clear H
        have H := H1
        clear H1
        simp only [Option.some.injEq, Prod.mk.injEq] at H
        obtain ⟨rfl, rfl, rfl⟩ := H
        go_wp2_with (first | ((with_reducible refine gate_callee (f := 118) rfl ?_); refine gl (some 21) rfl rfl Tryz.func118 (by kernel_rfl) rfl #[.pointer (some ⟨g, 0, none⟩), .int .i64 5] rfl ?_; (with_reducible refine (spec_l00Src_pick.calls hd g s0_0 x1001_1 x1002_1 5 t119 t120 t121 w0 _ ?side1 ?side2 A7.out).mono ?_); (case side1 => exact i0 HI0.out); (case side2 => exact b0 HB.out); rintro e w18 ⟨rfl, hi, hb, hk⟩; refine ⟨_, rfl, ?_⟩; replace HK := Aside0.mk (KeepBut.trans (k0 HK.out) hk (.inl rfl)); replace HB := Aside0.mk (hb); replace HI0 := Aside0.mk (hi); (try clear hb); (try clear hb2); (try clear hk); (try clear hi)) | ((with_reducible refine gate_callee (f := 118) rfl ?_); refine gl (some 26) rfl rfl Tryz.func118 (by kernel_rfl) rfl #[.pointer (some ⟨g, 0, none⟩), .int .i64 40] rfl ?_; (with_reducible refine (spec_l00Src_pick.calls hd g s0_0 t120 t121 40 t122 t123 t124 w0 _ ?side1 ?side2 A9.out).mono ?_); (case side1 => exact i0 HI0.out); (case side2 => exact b0 HB.out); rintro e w19 ⟨rfl, hi, hb, hk⟩; refine ⟨_, rfl, ?_⟩; replace HK := Aside0.mk (KeepBut.trans (k0 HK.out) hk (.inl rfl)); replace HB := Aside0.mk (hb); replace HI0 := Aside0.mk (hi); (try clear hb); (try clear hb2); (try clear hk); (try clear hi)) | ((with_reducible refine gate_callee (f := 177) rfl ?_); refine gl (some 38) rfl rfl Tryz.func177 (by kernel_rfl) rfl #[.pointer (some ⟨g, 0, none⟩), .int .i64 2] rfl ?_; (with_reducible refine (spec_l00Src_one.calls hd g s0_0 t123 t124 2 false t126 t127 w0 _ ?side1 ?side2 A13.out).mono ?_); (case side1 => exact i0 HI0.out); (case side2 => exact b0 HB.out); rintro e w20 ⟨rfl, hi, hb, hk⟩; refine ⟨_, rfl, ?_⟩; replace HK := Aside0.mk (KeepBut.trans (k0 HK.out) hk (.inl rfl)); replace HB := Aside0.mk (hb); replace HI0 := Aside0.mk (hi); (try clear hb); (try clear hb2); (try clear hk); (try clear hi)))
        go_ret
        exact ⟨by first | rfl | (simp [errW_none, errW_some] <;> rfl) | (simp only [← hji10, ← hji12]; first | rfl | (simp [errW_none, errW_some] <;> rfl)) | (simp [*, errW_none, errW_some] <;> rfl), i0 HI0.out, b0 HB.out, k0 HK.out⟩
      ·rw [if_neg c11] at H
       exact absurd H (by simp)
     ·rw [if_neg c8] at H
      have c8b0 : (t119 == 0) = false := beq_eq_false_iff_ne.mpr c8
      have c8b1 : (t119 != 0) = true := bne_iff_ne.mpr c8
      by_cases c21 : t119 = 1
      ·rw [if_pos c21] at H
       have c21b0 : (t119 == 1) = true := beq_iff_eq.mpr c21
       have c21b1 : (t119 != 1) = false := bne_eq_false_iff_eq.mpr c21
       clear c21
       obtain ⟨y128, hy128⟩ : ∃ y_ : List Int, y_ = (([0, 1, a1, wrap64 (Int.tdiv a1 2)] : List Int)) := ⟨_, rfl⟩
       replace H : ((spec_l00Src_among.f s0_0 t120 t121 y128).bind fun bt131 => ((spec_l00Src_one.f s0_0 bt131.2.1 bt131.2.2 2).bind fun bt134 => (if bt134.1 = true then (some (wrap64 (-bt131.1), bt134.2.1, bt134.2.2)) else (some (bt131.1, bt134.2.1, bt134.2.2))))) = some (r1, r2, r3) := by first | (rw [hy128]; with_reducible exact H) | (have H2_ := (Option.bind_some _ _).symm.trans H; rw [hy128]; with_reducible exact H2_) | (have H2_ := (Option.bind_some _ _).symm.trans H; with_reducible exact H2_) | with_reducible exact H | (rw [hy128]; exact H) | exact H
       have Ny128 := Aside0.mk hy128
       clear hy128
       replace H := Option.bind_eq_some_iff.mp H
       obtain ⟨⟨t131, t132, t133⟩, A220, H⟩ := H
       replace H : ((spec_l00Src_one.f s0_0 t132 t133 2).bind fun bt134 => (if bt134.1 = true then (some (wrap64 (-t131), bt134.2.1, bt134.2.2)) else (some (t131, bt134.2.1, bt134.2.2)))) = some (r1, r2, r3) := H
       have A22 := Aside0.mk A220
       clear A220
       replace H := Option.bind_eq_some_iff.mp H
       obtain ⟨⟨t134, t135, t136⟩, A230, H⟩ := H
       replace H : (if t134 = true then (some (wrap64 (-t131), t135, t136)) else (some (t131, t135, t136))) = some (r1, r2, r3) := H
       have A23 := Aside0.mk A230
       clear A230
       by_cases c24 : t134 = true
       ·subst c24
        have H1 : (some (wrap64 (-t131), t135, t136)) = some (r1, r2, r3) := by rw [if_pos rfl] at H; exact H
        clear H
        have H := H1
        clear H1
        simp only [Option.some.injEq, Prod.mk.injEq] at H
        obtain ⟨rfl, rfl, rfl⟩ := H
        go_wp2_with (first | ((with_reducible refine gate_callee (f := 118) rfl ?_); refine gl (some 21) rfl rfl Tryz.func118 (by kernel_rfl) rfl #[.pointer (some ⟨g, 0, none⟩), .int .i64 5] rfl ?_; (with_reducible refine (spec_l00Src_pick.calls hd g s0_0 x1001_1 x1002_1 5 t119 t120 t121 w0 _ ?side1 ?side2 A7.out).mono ?_); (case side1 => exact i0 HI0.out); (case side2 => exact b0 HB.out); rintro e w25 ⟨rfl, hi, hb, hk⟩; refine ⟨_, rfl, ?_⟩; replace HK := Aside0.mk (KeepBut.trans (k0 HK.out) hk (.inl rfl)); replace HB := Aside0.mk (hb); replace HI0 := Aside0.mk (hi); (try clear hb); (try clear hb2); (try clear hk); (try clear hi)) | ((with_reducible refine gate_dst (N := 35) rfl ?_); refine Kd.R_lit (Kd.int .i64) _ 2 ?hg (N := 35) ?hd (xs := ([0, 1, a1, wrap64 (Int.tdiv a1 2)] : List Int)) (inner := [.int .i64 0, .int .i64 1, .int .i64 a1, .int .i64 (wrap64 (Int.tdiv a1 2))]) (ok := fun _ => True) (okp := fun _ => True) ?hr ?hp (fun _ hk => hk) trivial (Below.refl _ _) (Nat.le_refl _) (by simp) ?_; (case hd => rfl); (case hg => rfl); (case hr => first | (go_simp; done) | (go_simp; rfl)); (case hp => exact (Reps.one (show Kd.M (Kd.int .i64) _ _ _ 0 [.int .i64 0] from rfl) (Reps.one (show Kd.M (Kd.int .i64) _ _ _ 1 [.int .i64 1] from rfl) (Reps.one (show Kd.M (Kd.int .i64) _ _ _ a1 [.int .i64 a1] from rfl) (Reps.one (show Kd.M (Kd.int .i64) _ _ _ (wrap64 (Int.tdiv a1 2)) [.int .i64 (wrap64 (Int.tdiv a1 2))] from rfl) (Reps.none _ _)))))); intro v129 w26 ho27 hb hg_ hnew_; clear hg_ hnew_; (first | rw [← Ny128.out] at ho27 | (simp only [Int.reduceToNat] at ho27; rw [← Ny128.out] at ho27)); have HO130 := Aside0.mk (Kd.R_lower ho27 (keep_size (w := w) (g := g) (row := none) (k0 HK.out))); replace HI0 := Aside0.mk (IsS106.below (i0 HI0.out) hb); replace HK := Aside0.mk (KeepBut.trans (k0 HK.out) (KeepBut.of_below hb g none) (.inl rfl)); replace HB := Aside0.mk (below_step (b0 HB.out) hb); clear hb ho27; obtain ⟨Ao28, co28, eo28⟩ := Kd.R_slice HO130.out; subst eo28) | ((with_reducible refine gate_callee (f := 120) rfl ?_); refine gl (some 36) rfl rfl Tryz.func120 (by kernel_rfl) rfl #[.pointer (some ⟨g, 0, none⟩), .slice Ao28 y128.length co28] rfl ?_; (with_reducible refine (spec_l00Src_among.calls hd g s0_0 t120 t121 _ _ y128 t131 t132 t133 w0 _ ?side1 ?side2 ?side3 ?side4 ?side5 A22.out).mono ?_); (case side1 => exact i0 HI0.out); (case side2 => exact b0 HB.out); (case side3 => repeat (first | exact (Kd.R_reads' HO130.out).2.2 | (with_reducible refine Kd.C_alloc ?_ _) | (with_reducible refine Kd.C_drewN ?_ _) | (with_reducible refine Kd.C_drew ?_))); (case side4 => exact (Kd.R_reads' HO130.out).2.1); (case side5 => exact far_slice (IsS106.own_ne HI0.out HO130.out (by decide))); rintro e w29 ⟨rfl, hi, hb, hk⟩; refine ⟨_, rfl, ?_⟩; replace HO130 := Aside0.mk (Kd.R_mono (Kd.R_keep (IsS106.apart (show IsS106 hd w0 _ g s0_0 t120 t121 from i0 HI0.out) HO130.out (by decide)) hk (fun _ h => h.2)) (fun _ h => h.1)); replace HK := Aside0.mk (KeepBut.trans (k0 HK.out) hk (.inl rfl)); replace HB := Aside0.mk (hb); replace HI0 := Aside0.mk (hi); (try clear hb); (try clear hb2); (try clear hk); (try clear hi)) | ((with_reducible refine gate_callee (f := 177) rfl ?_); refine gl (some 38) rfl rfl Tryz.func177 (by kernel_rfl) rfl #[.pointer (some ⟨g, 0, none⟩), .int .i64 2] rfl ?_; (with_reducible refine (spec_l00Src_one.calls hd g s0_0 t132 t133 2 true t135 t136 w0 _ ?side1 ?side2 A23.out).mono ?_); (case side1 => exact i0 HI0.out); (case side2 => exact b0 HB.out); rintro e w30 ⟨rfl, hi, hb, hk⟩; refine ⟨_, rfl, ?_⟩; replace HO130 := Aside0.mk (Kd.R_mono (Kd.R_keep (IsS106.apart (show IsS106 hd w0 _ g s0_0 t132 t133 from i0 HI0.out) HO130.out (by decide)) hk (fun _ h => h.2)) (fun _ h => h.1)); replace HK := Aside0.mk (KeepBut.trans (k0 HK.out) hk (.inl rfl)); replace HB := Aside0.mk (hb); replace HI0 := Aside0.mk (hi); (try clear hb); (try clear hb2); (try clear hk); (try clear hi)))
        go_ret
        exact ⟨rfl, i0 HI0.out, b0 HB.out, k0 HK.out⟩
       ·replace c24 := Bool.eq_false_iff.mpr c24
        subst c24
        have H1 : (some (t131, t135, t136)) = some (r1, r2, r3) := by rw [if_neg (show ¬ (false = true) by decide)] at H; exact H
        clear H
        have H := H1
        clear H1
        simp only [Option.some.injEq, Prod.mk.injEq] at H
        obtain ⟨rfl, rfl, rfl⟩ := H
        go_wp2_with (first | ((with_reducible refine gate_callee (f := 118) rfl ?_); refine gl (some 21) rfl rfl Tryz.func118 (by kernel_rfl) rfl #[.pointer (some ⟨g, 0, none⟩), .int .i64 5] rfl ?_; (with_reducible refine (spec_l00Src_pick.calls hd g s0_0 x1001_1 x1002_1 5 t119 t120 t121 w0 _ ?side1 ?side2 A7.out).mono ?_); (case side1 => exact i0 HI0.out); (case side2 => exact b0 HB.out); rintro e w31 ⟨rfl, hi, hb, hk⟩; refine ⟨_, rfl, ?_⟩; replace HK := Aside0.mk (KeepBut.trans (k0 HK.out) hk (.inl rfl)); replace HB := Aside0.mk (hb); replace HI0 := Aside0.mk (hi); (try clear hb); (try clear hb2); (try clear hk); (try clear hi)) | ((with_reducible refine gate_dst (N := 35) rfl ?_); refine Kd.R_lit (Kd.int .i64) _ 2 ?hg (N := 35) ?hd (xs := ([0, 1, a1, wrap64 (Int.tdiv a1 2)] : List Int)) (inner := [.int .i64 0, .int .i64 1, .int .i64 a1, .int .i64 (wrap64 (Int.tdiv a1 2))]) (ok := fun _ => True) (okp := fun _ => True) ?hr ?hp (fun _ hk => hk) trivial (Below.refl _ _) (Nat.le_refl _) (by simp) ?_; (case hd => rfl); (case hg => rfl); (case hr => first | (go_simp; done) | (go_simp; rfl)); (case hp => exact (Reps.one (show Kd.M (Kd.int .i64) _ _ _ 0 [.int .i64 0] from rfl) (Reps.one (show Kd.M (Kd.int .i64) _ _ _ 1 [.int .i64 1] from rfl) (Reps.one (show Kd.M (Kd.int .i64) _ _ _ a1 [.int .i64 a1] from rfl) (Reps.one (show Kd.M (Kd.int .i64) _ _ _ (wrap64 (Int.tdiv a1 2)) [.int .i64 (wrap64 (Int.tdiv a1 2))] from rfl) (Reps.none _ _)))))); intro v129 w32 ho33 hb hg_ hnew_; clear hg_ hnew_; (first | rw [← Ny128.out] at ho33 | (simp only [Int.reduceToNat] at ho33; rw [← Ny128.out] at ho33)); have HO130 := Aside0.mk (Kd.R_lower ho33 (keep_size (w := w) (g := g) (row := none) (k0 HK.out))); replace HI0 := Aside0.mk (IsS106.below (i0 HI0.out) hb); replace HK := Aside0.mk (KeepBut.trans (k0 HK.out) (KeepBut.of_below hb g none) (.inl rfl)); replace HB := Aside0.mk (below_step (b0 HB.out) hb); clear hb ho33; obtain ⟨Ao34, co34, eo34⟩ := Kd.R_slice HO130.out; subst eo34) | ((with_reducible refine gate_callee (f := 120) rfl ?_); refine gl (some 36) rfl rfl Tryz.func120 (by kernel_rfl) rfl #[.pointer (some ⟨g, 0, none⟩), .slice Ao34 y128.length co34] rfl ?_; (with_reducible refine (spec_l00Src_among.calls hd g s0_0 t120 t121 _ _ y128 t131 t132 t133 w0 _ ?side1 ?side2 ?side3 ?side4 ?side5 A22.out).mono ?_); (case side1 => exact i0 HI0.out); (case side2 => exact b0 HB.out); (case side3 => repeat (first | exact (Kd.R_reads' HO130.out).2.2 | (with_reducible refine Kd.C_alloc ?_ _) | (with_reducible refine Kd.C_drewN ?_ _) | (with_reducible refine Kd.C_drew ?_))); (case side4 => exact (Kd.R_reads' HO130.out).2.1); (case side5 => exact far_slice (IsS106.own_ne HI0.out HO130.out (by decide))); rintro e w35 ⟨rfl, hi, hb, hk⟩; refine ⟨_, rfl, ?_⟩; replace HO130 := Aside0.mk (Kd.R_mono (Kd.R_keep (IsS106.apart (show IsS106 hd w0 _ g s0_0 t120 t121 from i0 HI0.out) HO130.out (by decide)) hk (fun _ h => h.2)) (fun _ h => h.1)); replace HK := Aside0.mk (KeepBut.trans (k0 HK.out) hk (.inl rfl)); replace HB := Aside0.mk (hb); replace HI0 := Aside0.mk (hi); (try clear hb); (try clear hb2); (try clear hk); (try clear hi)) | ((with_reducible refine gate_callee (f := 177) rfl ?_); refine gl (some 38) rfl rfl Tryz.func177 (by kernel_rfl) rfl #[.pointer (some ⟨g, 0, none⟩), .int .i64 2] rfl ?_; (with_reducible refine (spec_l00Src_one.calls hd g s0_0 t132 t133 2 false t135 t136 w0 _ ?side1 ?side2 A23.out).mono ?_); (case side1 => exact i0 HI0.out); (case side2 => exact b0 HB.out); rintro e w36 ⟨rfl, hi, hb, hk⟩; refine ⟨_, rfl, ?_⟩; replace HO130 := Aside0.mk (Kd.R_mono (Kd.R_keep (IsS106.apart (show IsS106 hd w0 _ g s0_0 t132 t133 from i0 HI0.out) HO130.out (by decide)) hk (fun _ h => h.2)) (fun _ h => h.1)); replace HK := Aside0.mk (KeepBut.trans (k0 HK.out) hk (.inl rfl)); replace HB := Aside0.mk (hb); replace HI0 := Aside0.mk (hi); (try clear hb); (try clear hb2); (try clear hk); (try clear hi)))
        go_ret
        exact ⟨rfl, i0 HI0.out, b0 HB.out, k0 HK.out⟩
      ·rw [if_neg c21] at H
       have c21b0 : (t119 == 1) = false := beq_eq_false_iff_ne.mpr c21
       have c21b1 : (t119 != 1) = true := bne_iff_ne.mpr c21
       replace H := Option.bind_eq_some_iff.mp H
       obtain ⟨⟨t137, t138, t139⟩, A370, H⟩ := H
       replace H : (if t137 = true then (some (wrap64 (-(Int.tmod x5_1 (wrap64 (a1 + 1)))), t138, t139)) else (some (Int.tmod x5_1 (wrap64 (a1 + 1)), t138, t139))) = some (r1, r2, r3) := H
       have A37 := Aside0.mk A370
       clear A370
       by_cases c38 : t137 = true
       ·subst c38
        have H1 : (some (wrap64 (-(Int.tmod x5_1 (wrap64 (a1 + 1)))), t138, t139)) = some (r1, r2, r3) := by rw [if_pos rfl] at H; exact H
        clear H
        have H := H1
        clear H1
        simp only [Option.some.injEq, Prod.mk.injEq] at H
        obtain ⟨rfl, rfl, rfl⟩ := H
        go_wp2_with (first | ((with_reducible refine gate_callee (f := 118) rfl ?_); refine gl (some 21) rfl rfl Tryz.func118 (by kernel_rfl) rfl #[.pointer (some ⟨g, 0, none⟩), .int .i64 5] rfl ?_; (with_reducible refine (spec_l00Src_pick.calls hd g s0_0 x1001_1 x1002_1 5 t119 t120 t121 w0 _ ?side1 ?side2 A7.out).mono ?_); (case side1 => exact i0 HI0.out); (case side2 => exact b0 HB.out); rintro e w39 ⟨rfl, hi, hb, hk⟩; refine ⟨_, rfl, ?_⟩; replace HK := Aside0.mk (KeepBut.trans (k0 HK.out) hk (.inl rfl)); replace HB := Aside0.mk (hb); replace HI0 := Aside0.mk (hi); (try clear hb); (try clear hb2); (try clear hk); (try clear hi)) | ((with_reducible refine gate_callee (f := 177) rfl ?_); refine gl (some 38) rfl rfl Tryz.func177 (by kernel_rfl) rfl #[.pointer (some ⟨g, 0, none⟩), .int .i64 2] rfl ?_; (with_reducible refine (spec_l00Src_one.calls hd g s0_0 t120 t121 2 true t138 t139 w0 _ ?side1 ?side2 A37.out).mono ?_); (case side1 => exact i0 HI0.out); (case side2 => exact b0 HB.out); rintro e w40 ⟨rfl, hi, hb, hk⟩; refine ⟨_, rfl, ?_⟩; replace HK := Aside0.mk (KeepBut.trans (k0 HK.out) hk (.inl rfl)); replace HB := Aside0.mk (hb); replace HI0 := Aside0.mk (hi); (try clear hb); (try clear hb2); (try clear hk); (try clear hi)))
        go_ret
        exact ⟨rfl, i0 HI0.out, b0 HB.out, k0 HK.out⟩
       ·replace c38 := Bool.eq_false_iff.mpr c38
        subst c38
        have H1 : (some (Int.tmod x5_1 (wrap64 (a1 + 1)), t138, t139)) = some (r1, r2, r3) := by rw [if_neg (show ¬ (false = true) by decide)] at H; exact H
        clear H
        have H := H1
        clear H1
        simp only [Option.some.injEq, Prod.mk.injEq] at H
        obtain ⟨rfl, rfl, rfl⟩ := H
        go_wp2_with (first | ((with_reducible refine gate_callee (f := 118) rfl ?_); refine gl (some 21) rfl rfl Tryz.func118 (by kernel_rfl) rfl #[.pointer (some ⟨g, 0, none⟩), .int .i64 5] rfl ?_; (with_reducible refine (spec_l00Src_pick.calls hd g s0_0 x1001_1 x1002_1 5 t119 t120 t121 w0 _ ?side1 ?side2 A7.out).mono ?_); (case side1 => exact i0 HI0.out); (case side2 => exact b0 HB.out); rintro e w41 ⟨rfl, hi, hb, hk⟩; refine ⟨_, rfl, ?_⟩; replace HK := Aside0.mk (KeepBut.trans (k0 HK.out) hk (.inl rfl)); replace HB := Aside0.mk (hb); replace HI0 := Aside0.mk (hi); (try clear hb); (try clear hb2); (try clear hk); (try clear hi)) | ((with_reducible refine gate_callee (f := 177) rfl ?_); refine gl (some 38) rfl rfl Tryz.func177 (by kernel_rfl) rfl #[.pointer (some ⟨g, 0, none⟩), .int .i64 2] rfl ?_; (with_reducible refine (spec_l00Src_one.calls hd g s0_0 t120 t121 2 false t138 t139 w0 _ ?side1 ?side2 A37.out).mono ?_); (case side1 => exact i0 HI0.out); (case side2 => exact b0 HB.out); rintro e w42 ⟨rfl, hi, hb, hk⟩; refine ⟨_, rfl, ?_⟩; replace HK := Aside0.mk (KeepBut.trans (k0 HK.out) hk (.inl rfl)); replace HB := Aside0.mk (hb); replace HI0 := Aside0.mk (hi); (try clear hb); (try clear hb2); (try clear hk); (try clear hi)))
        go_ret
        exact ⟨rfl, i0 HI0.out, b0 HB.out, k0 HK.out⟩
def spec_l11Wrap.f (a0 : Int) : Option (Int) := if (Int.tmod a0 3600000000) > 1800000000 then (if (wrap64 ((Int.tmod a0 3600000000) - 3600000000)) ≤ (-1800000000) then (some (wrap64 ((wrap64 ((Int.tmod a0 3600000000) - 3600000000)) + 3600000000))) else (some (wrap64 ((Int.tmod a0 3600000000) - 3600000000)))) else (if (Int.tmod a0 3600000000) ≤ (-1800000000) then (some (wrap64 ((Int.tmod a0 3600000000) + 3600000000))) else (some (Int.tmod a0 3600000000)))
set_option maxHeartbeats 8000000 in
set_option maxRecDepth 100000 in
theorem spec_l11Wrap.calls (a0 : Int) (r : Int) (w : World) (h : spec_l11Wrap.f a0 = some r) :
  Calls Tryz.prog 122 #[.int .i64 a0] w fun e w' => e = .returned (.int .i64 r) ∧ Drawn0 w w' := by
 have H : (if (Int.tmod a0 3600000000) > 1800000000 then (if (wrap64 ((Int.tmod a0 3600000000) - 3600000000)) ≤ (-1800000000) then (some (wrap64 ((wrap64 ((Int.tmod a0 3600000000) - 3600000000)) + 3600000000))) else (some (wrap64 ((Int.tmod a0 3600000000) - 3600000000)))) else (if (Int.tmod a0 3600000000) ≤ (-1800000000) then (some (wrap64 ((Int.tmod a0 3600000000) + 3600000000))) else (some (Int.tmod a0 3600000000)))) = some r := h
 clear h
 by_cases c2 : (Int.tmod a0 3600000000) > 1800000000
 ·rw [if_pos c2] at H
  have c2b0 : decide (1800000000 < (Int.tmod a0 3600000000)) = true := decide_eq_true c2
  clear c2
  by_cases c3 : (wrap64 ((Int.tmod a0 3600000000) - 3600000000)) ≤ (-1800000000)
  ·rw [if_pos c3] at H
   have c3b0 : decide ((wrap64 ((Int.tmod a0 3600000000) - 3600000000)) ≤ (-1800000000)) = true := decide_eq_true c3
   clear c3
   obtain rfl := Option.some.inj H
   go_enter Tryz.func122, Tryz.ntmps122
   go_wp2
   go_ret
   exact ⟨by first | rfl | (simp; done) | (simp [*]; done), by repeat (first | exact Drawn0.refl _ | apply Drawn0.step)⟩
  ·rw [if_neg c3] at H
   have c3b0 : decide ((wrap64 ((Int.tmod a0 3600000000) - 3600000000)) ≤ (-1800000000)) = false := decide_eq_false c3
   clear c3
   obtain rfl := Option.some.inj H
   go_enter Tryz.func122, Tryz.ntmps122
   go_wp2
   go_ret
   exact ⟨by first | rfl | (simp; done) | (simp [*]; done), by repeat (first | exact Drawn0.refl _ | apply Drawn0.step)⟩
 ·rw [if_neg c2] at H
  have c2b0 : decide (1800000000 < (Int.tmod a0 3600000000)) = false := decide_eq_false c2
  clear c2
  by_cases c4 : (Int.tmod a0 3600000000) ≤ (-1800000000)
  ·rw [if_pos c4] at H
   have c4b0 : decide ((Int.tmod a0 3600000000) ≤ (-1800000000)) = true := decide_eq_true c4
   clear c4
   obtain rfl := Option.some.inj H
   go_enter Tryz.func122, Tryz.ntmps122
   go_wp2
   go_ret
   exact ⟨by first | rfl | (simp; done) | (simp [*]; done), by repeat (first | exact Drawn0.refl _ | apply Drawn0.step)⟩
  ·rw [if_neg c4] at H
   have c4b0 : decide ((Int.tmod a0 3600000000) ≤ (-1800000000)) = false := decide_eq_false c4
   clear c4
   obtain rfl := Option.some.inj H
   go_enter Tryz.func122, Tryz.ntmps122
   go_wp2
   go_ret
   exact ⟨by first | rfl | (simp; done) | (simp [*]; done), by repeat (first | exact Drawn0.refl _ | apply Drawn0.step)⟩
def spec_l11Draw.f (k : Nat) (s0_0 : List Int) (s0_1 : Int) (s0_2 : Int) : Option (Int × Int × Int × Int) := (spec_l05Number.f k s0_0 s0_1 s0_2 900000000).bind fun bt141 => ((spec_l05Number.f k s0_0 bt141.2.1 bt141.2.2 1800000000).bind fun bt145 => ((spec_l11Wrap.f bt145.1).bind fun t148 => ((spec_l00Src_pick.f s0_0 bt145.2.1 bt145.2.2 10).bind fun bt149 => (if bt149.1 = 0 then ((spec_l00Src_among.f s0_0 bt149.2.1 bt149.2.2 (([900000000, (-900000000), 0, 1] : List Int))).bind fun bt155 => (some (bt155.1, t148, bt155.2.1, bt155.2.2))) else (if bt149.1 = 1 then ((spec_l00Src_among.f s0_0 bt149.2.1 bt149.2.2 (([1800000000, (-1799999999), 0, 900000000, (-900000000)] : List Int))).bind fun bt161 => (some (bt141.1, bt161.1, bt161.2.1, bt161.2.2))) else (some (bt141.1, t148, bt149.2.1, bt149.2.2)))))))
set_option maxHeartbeats 8000000 in
set_option maxRecDepth 100000 in
theorem spec_l11Draw.calls (k : Nat) (hd : Option Addr × Nat) (g : Nat) (s0_0 : List Int) (s0_1 : Int) (s0_2 : Int) (r1 : Int) (r2 : Int) (r3 : Int) (r4 : Int) (w0 w : World) (hI : IsS106 hd w0 w g s0_0 s0_1 s0_2) (hB : Below w0.heap.size w0 w) (h : spec_l11Draw.f k s0_0 s0_1 s0_2 = some (r1, r2, r3, r4)) :
  Calls Tryz.prog 55 #[.pointer (some ⟨g, 0, none⟩)] w fun e w' => e = .returned (.agg #[.int .i64 r1, .int .i64 r2]) ∧ IsS106 hd w0 w' g s0_0 r3 r4 ∧ Below w0.heap.size w0 w' ∧ KeepBut w w' g none := by
 have hu28 := Tryz.underlying28
 have HI0 := Aside0.mk hI
 have HK := Aside0.mk (KeepBut.refl w g none)
 have HL := Aside0.mk hB.size
 clear hI
 have HW0 := Aside0.mk hB.size
 have HB := Aside0.mk hB
 clear hB
 have H : ((spec_l05Number.f k s0_0 s0_1 s0_2 900000000).bind fun bt141 => ((spec_l05Number.f k s0_0 bt141.2.1 bt141.2.2 1800000000).bind fun bt145 => ((spec_l11Wrap.f bt145.1).bind fun t148 => ((spec_l00Src_pick.f s0_0 bt145.2.1 bt145.2.2 10).bind fun bt149 => (if bt149.1 = 0 then ((spec_l00Src_among.f s0_0 bt149.2.1 bt149.2.2 (([900000000, (-900000000), 0, 1] : List Int))).bind fun bt155 => (some (bt155.1, t148, bt155.2.1, bt155.2.2))) else (if bt149.1 = 1 then ((spec_l00Src_among.f s0_0 bt149.2.1 bt149.2.2 (([1800000000, (-1799999999), 0, 900000000, (-900000000)] : List Int))).bind fun bt161 => (some (bt141.1, bt161.1, bt161.2.1, bt161.2.2))) else (some (bt141.1, t148, bt149.2.1, bt149.2.2)))))))) = some (r1, r2, r3, r4) := h
 clear h
 replace H := Option.bind_eq_some_iff.mp H
 obtain ⟨⟨t141, t142, t143⟩, A20, H⟩ := H
 replace H : ((spec_l05Number.f k s0_0 t142 t143 1800000000).bind fun bt145 => ((spec_l11Wrap.f bt145.1).bind fun t148 => ((spec_l00Src_pick.f s0_0 bt145.2.1 bt145.2.2 10).bind fun bt149 => (if bt149.1 = 0 then ((spec_l00Src_among.f s0_0 bt149.2.1 bt149.2.2 (([900000000, (-900000000), 0, 1] : List Int))).bind fun bt155 => (some (bt155.1, t148, bt155.2.1, bt155.2.2))) else (if bt149.1 = 1 then ((spec_l00Src_among.f s0_0 bt149.2.1 bt149.2.2 (([1800000000, (-1799999999), 0, 900000000, (-900000000)] : List Int))).bind fun bt161 => (some (t141, bt161.1, bt161.2.1, bt161.2.2))) else (some (t141, t148, bt149.2.1, bt149.2.2))))))) = some (r1, r2, r3, r4) := H
 have A2 := Aside0.mk A20
 clear A20
 replace H := Option.bind_eq_some_iff.mp H
 obtain ⟨⟨t145, t146, t147⟩, A30, H⟩ := H
 replace H : ((spec_l11Wrap.f t145).bind fun t148 => ((spec_l00Src_pick.f s0_0 t146 t147 10).bind fun bt149 => (if bt149.1 = 0 then ((spec_l00Src_among.f s0_0 bt149.2.1 bt149.2.2 (([900000000, (-900000000), 0, 1] : List Int))).bind fun bt155 => (some (bt155.1, t148, bt155.2.1, bt155.2.2))) else (if bt149.1 = 1 then ((spec_l00Src_among.f s0_0 bt149.2.1 bt149.2.2 (([1800000000, (-1799999999), 0, 900000000, (-900000000)] : List Int))).bind fun bt161 => (some (t141, bt161.1, bt161.2.1, bt161.2.2))) else (some (t141, t148, bt149.2.1, bt149.2.2)))))) = some (r1, r2, r3, r4) := H
 have A3 := Aside0.mk A30
 clear A30
 replace H := Option.bind_eq_some_iff.mp H
 obtain ⟨t148, A40, H⟩ := H
 replace H : ((spec_l00Src_pick.f s0_0 t146 t147 10).bind fun bt149 => (if bt149.1 = 0 then ((spec_l00Src_among.f s0_0 bt149.2.1 bt149.2.2 (([900000000, (-900000000), 0, 1] : List Int))).bind fun bt155 => (some (bt155.1, t148, bt155.2.1, bt155.2.2))) else (if bt149.1 = 1 then ((spec_l00Src_among.f s0_0 bt149.2.1 bt149.2.2 (([1800000000, (-1799999999), 0, 900000000, (-900000000)] : List Int))).bind fun bt161 => (some (t141, bt161.1, bt161.2.1, bt161.2.2))) else (some (t141, t148, bt149.2.1, bt149.2.2))))) = some (r1, r2, r3, r4) := H
 have A4 := Aside0.mk A40
 clear A40
 replace H := Option.bind_eq_some_iff.mp H
 obtain ⟨⟨t149, t150, t151⟩, A50, H⟩ := H
 replace H : (if t149 = 0 then ((spec_l00Src_among.f s0_0 t150 t151 (([900000000, (-900000000), 0, 1] : List Int))).bind fun bt155 => (some (bt155.1, t148, bt155.2.1, bt155.2.2))) else (if t149 = 1 then ((spec_l00Src_among.f s0_0 t150 t151 (([1800000000, (-1799999999), 0, 900000000, (-900000000)] : List Int))).bind fun bt161 => (some (t141, bt161.1, bt161.2.1, bt161.2.2))) else (some (t141, t148, t150, t151)))) = some (r1, r2, r3, r4) := H
 have A5 := Aside0.mk A50
 clear A50
 by_cases c6 : t149 = 0
 ·rw [if_pos c6] at H
  have c6b0 : (t149 == 0) = true := beq_iff_eq.mpr c6
  have c6b1 : (t149 != 0) = false := bne_eq_false_iff_eq.mpr c6
  clear c6
  obtain ⟨y152, hy152⟩ : ∃ y_ : List Int, y_ = (([900000000, (-900000000), 0, 1] : List Int)) := ⟨_, rfl⟩
  replace H : ((spec_l00Src_among.f s0_0 t150 t151 y152).bind fun bt155 => (some (bt155.1, t148, bt155.2.1, bt155.2.2))) = some (r1, r2, r3, r4) := by first | (rw [hy152]; with_reducible exact H) | (have H2_ := (Option.bind_some _ _).symm.trans H; rw [hy152]; with_reducible exact H2_) | (have H2_ := (Option.bind_some _ _).symm.trans H; with_reducible exact H2_) | with_reducible exact H | (rw [hy152]; exact H) | exact H
  have Ny152 := Aside0.mk hy152
  clear hy152
  replace H := Option.bind_eq_some_iff.mp H
  obtain ⟨⟨t155, t156, t157⟩, A70, H⟩ := H
  replace H : (some (t155, t148, t156, t157)) = some (r1, r2, r3, r4) := H
  have A7 := Aside0.mk A70
  clear A70
  simp only [Option.some.injEq, Prod.mk.injEq] at H
  obtain ⟨rfl, rfl, rfl, rfl⟩ := H
  go_enter Tryz.func55, Tryz.ntmps55
  go_wp2_with (first | ((with_reducible refine gate_dst (N := 2) rfl ?_); refine box_event ?hg_1 (N := 2) ?hd_1 (cs := #[.int .i64 0, .int .i64 0]) (t := 28) ?hr_1 ?_; (case hd_1 => rfl); (case hg_1 => rfl); (case hr_1 => first | (go_simp; done) | (go_simp; rfl)); intro gb140 hg w8 hbox hb; replace HB := Aside0.mk (below_step (b0 HB.out) hb); have BK140 := Aside0.mk (hbox); have GW140 := Aside0.mk ((by rw [hg]; exact (keep_size (w := w) (g := g) (row := none) (k0 HK.out)) : w.heap.size ≤ gb140)); have GE140 := Aside0.mk ((Nat.le_trans HW0.out (by rw [hg]; exact (keep_size (w := w) (g := g) (row := none) (k0 HK.out)) : w.heap.size ≤ gb140) : w0.heap.size ≤ gb140)); replace HK := Aside0.mk (KeepBut.trans (k0 HK.out) (KeepBut.of_below hb g none) (.inl rfl)); have NB0_140 := Aside0.mk ((by rw [hg]; exact Nat.ne_of_lt (IsS106.lt (show IsS106 hd w0 _ g s0_0 s0_1 s0_2 from i0 HI0.out)) : g ≠ gb140)); have NB140_0 := Aside0.mk ((by rw [hg]; exact Nat.ne_of_gt (IsS106.lt (show IsS106 hd w0 _ g s0_0 s0_1 s0_2 from i0 HI0.out)) : gb140 ≠ g)); replace HI0 := Aside0.mk (IsS106.below (i0 HI0.out) hb); clear hb hbox hg) | ((with_reducible refine gate_callee (f := 121) rfl ?_); refine gl (some 5) rfl rfl Tryz.func121 (by kernel_rfl) rfl #[.pointer (some ⟨g, 0, none⟩), .int .i64 900000000] rfl ?_; (with_reducible refine (spec_l05Number.calls k hd g s0_0 s0_1 s0_2 900000000 t141 t142 t143 w0 _ ?side1_2 ?side2_2 A2.out).mono ?_); (case side1_2 => exact iq HI0.out (.c NB0_140.out .n)); (case side2_2 => exact bq HB.out (.c GE140.out .n)); rintro e w9 ⟨rfl, hi, hb, hk⟩; refine ⟨_, rfl, ?_⟩; replace BK140 := Aside0.mk (KeepBut.blk hk (g' := gb140) (o := .cells #[.int .i64 0, .int .i64 0] 28 (0, 0)) (h0 BK140.out) NB140_0.out (by simp)); replace HK := Aside0.mk (KeepBut.trans (kq HK.out (.c GW140.out .n)) hk (.inl rfl)); replace HB := Aside0.mk (hb); replace HI0 := Aside0.mk (hi); (try clear hb); (try clear hb2); (try clear hk); (try clear hi)) | ((with_reducible refine gate_dst (N := 3) rfl ?_); refine box_event ?hg_3 (N := 3) ?hd_3 (cs := #[.int .i64 0, .int .i64 0]) (t := 28) ?hr_3 ?_; (case hd_3 => rfl); (case hg_3 => rfl); (case hr_3 => first | (go_simp; done) | (go_simp; rfl)); intro gb144 hg w10 hbox hb; replace HB := Aside0.mk (below_step (bq HB.out (.c GE140.out .n)) hb); have BK144 := Aside0.mk (hbox); have GW144 := Aside0.mk ((by rw [hg]; exact (keep_size (w := w) (g := g) (row := none) (kq HK.out (.c GW140.out .n))) : w.heap.size ≤ gb144)); have GE144 := Aside0.mk ((Nat.le_trans HW0.out (by rw [hg]; exact (keep_size (w := w) (g := g) (row := none) (kq HK.out (.c GW140.out .n))) : w.heap.size ≤ gb144) : w0.heap.size ≤ gb144)); replace HK := Aside0.mk (KeepBut.trans (kq HK.out (.c GW140.out .n)) (KeepBut.of_below hb g none) (.inl rfl)); have NB140_144 := Aside0.mk ((by rw [hg]; exact Nat.ne_of_lt (blk_lt (g := gb140) (o := .cells #[.int .i64 0, .int .i64 0] 28 (0, 0)) (h0 BK140.out)) : gb140 ≠ gb144)); have NB144_140 := Aside0.mk ((by rw [hg]; exact Nat.ne_of_gt (blk_lt (g := gb140) (o := .cells #[.int .i64 0, .int .i64 0] 28 (0, 0)) (h0 BK140.out)) : gb144 ≠ gb140)); replace BK140 := Aside0.mk (blk_below (g := gb140) (o := .cells #[.int .i64 0, .int .i64 0] 28 (0, 0)) (h0 BK140.out) hb); have NB0_144 := Aside0.mk ((by rw [hg]; exact Nat.ne_of_lt (IsS106.lt (show IsS106 hd w0 _ g s0_0 t142 t143 from iq HI0.out (.c NB0_140.out .n))) : g ≠ gb144)); have NB144_0 := Aside0.mk ((by rw [hg]; exact Nat.ne_of_gt (IsS106.lt (show IsS106 hd w0 _ g s0_0 t142 t143 from iq HI0.out (.c NB0_140.out .n))) : gb144 ≠ g)); replace HI0 := Aside0.mk (IsS106.below (iq HI0.out (.c NB0_140.out .n)) hb); clear hb hbox hg; have hnb11 := NB144_140.out; have hnc11 := NB140_144.out; have hnb12 := NB144_0.out; have hnc12 := NB0_144.out; have hcz13_0 : w10.cell? ⟨gb144, 0, none⟩ = some (.int .i64 0) := (blk_cell BK144.out 0).trans rfl; have hcz13_1 : w10.cell? ⟨gb144, 1, none⟩ = some (.int .i64 0) := (blk_cell BK144.out 1).trans rfl; have hfz13_0 := blk_frozen BK144.out 0; have hfz13_1 := blk_frozen BK144.out 1) | ((with_reducible refine gate_callee (f := 121) rfl ?_); refine gl (some 8) rfl rfl Tryz.func121 (by kernel_rfl) rfl #[.pointer (some ⟨g, 0, none⟩), .int .i64 1800000000] rfl ?_; (with_reducible refine (spec_l05Number.calls k hd g s0_0 t142 t143 1800000000 t145 t146 t147 w0 _ ?side1_4 ?side2_4 A3.out).mono ?_); (case side1_4 => exact iq HI0.out (.c NB0_140.out (.c NB0_144.out .n))); (case side2_4 => exact bq HB.out (.c GE140.out (.c GE144.out .n))); rintro e w14 ⟨rfl, hi, hb, hk⟩; refine ⟨_, rfl, ?_⟩; replace BK140 := Aside0.mk (KeepBut.blk hk (g' := gb140) (o := .cells #[.int .i64 0, .int .i64 0] 28 (0, 0)) (hq BK140.out (.c NB140_144.out .n)) NB140_0.out (by simp)); replace BK144 := Aside0.mk (KeepBut.blk hk (g' := gb144) (o := .cells #[.int .i64 t141, .int .i64 0] 28 (0, 0)) (by refine hp ?_; refine blk_put (cs := #[.int .i64 t141, .int .i64 0]) ?_ 1 _ rfl; refine hp ?_; refine blk_put (cs := #[.int .i64 0, .int .i64 0]) ?_ 0 _ rfl; exact h0 BK144.out) NB144_0.out (by simp)); replace HK := Aside0.mk (KeepBut.trans (kq HK.out (.c GW140.out (.c GW144.out .n))) hk (.inl rfl)); replace HB := Aside0.mk (hb); replace HI0 := Aside0.mk (hi); (try clear hb); (try clear hb2); (try clear hk); (try clear hi)) | ((with_reducible refine gate_callee (f := 122) rfl ?_); refine gl (some 9) rfl rfl Tryz.func122 (by kernel_rfl) rfl #[.int .i64 t145] rfl ?_; (with_reducible refine (spec_l11Wrap.calls t145 t148 _ A4.out).mono ?_); rintro e w' ⟨rfl, ⟨nd, rfl⟩⟩; refine ⟨_, rfl, ?_⟩; (try (rw [drewN_self w14]; generalize hq_ : World.drewN w14 _ = w14; have n0_ : Aside0 (w14.heap[gb140]? = some (.cells #[.int .i64 0, .int .i64 0] 28 (0, 0))) := ⟨by rw [← hq_]; exact (h0 BK140.out)⟩; have n1_ : Aside0 (w14.heap[gb144]? = some (.cells #[.int .i64 t141, .int .i64 0] 28 (0, 0))) := ⟨by rw [← hq_]; exact (h0 BK144.out)⟩; have n2_ : Aside0 (IsS106 hd w0 w14 g s0_0 t146 t147) := ⟨by rw [← hq_]; exact (iq HI0.out (.c NB0_140.out (.c NB0_144.out .n)))⟩; have n3_ : Aside0 (KeepBut w w14 g none) := ⟨by rw [← hq_]; exact (kq HK.out (.c GW140.out (.c GW144.out .n)))⟩; have n4_ : Aside0 (Below w0.heap.size w0 w14) := ⟨by rw [← hq_]; exact (bq HB.out (.c GE140.out (.c GE144.out .n)))⟩; clear BK140 BK144 HI0 HK HB hq_; have BK140 := n0_; have BK144 := n1_; have HI0 := n2_; have HK := n3_; have HB := n4_; clear n0_ n1_ n2_ n3_ n4_)); have hcz15_0 : w14.cell? ⟨gb144, 0, none⟩ = some (.int .i64 t141) := (blk_cell BK144.out 0).trans rfl; have hcz15_1 : w14.cell? ⟨gb144, 1, none⟩ = some (.int .i64 0) := (blk_cell BK144.out 1).trans rfl; have hfz15_0 := blk_frozen BK144.out 0; have hfz15_1 := blk_frozen BK144.out 1) | ((with_reducible refine gate_callee (f := 118) rfl ?_); refine gl (some 12) rfl rfl Tryz.func118 (by kernel_rfl) rfl #[.pointer (some ⟨g, 0, none⟩), .int .i64 10] rfl ?_; (with_reducible refine (spec_l00Src_pick.calls hd g s0_0 t146 t147 10 t149 t150 t151 w0 _ ?side1_6 ?side2_6 A5.out).mono ?_); (case side1_6 => exact iq HI0.out (.c NB0_140.out (.c NB0_144.out .n))); (case side2_6 => exact bq HB.out (.c GE140.out (.c GE144.out .n))); rintro e w16 ⟨rfl, hi, hb, hk⟩; refine ⟨_, rfl, ?_⟩; replace BK140 := Aside0.mk (KeepBut.blk hk (g' := gb140) (o := .cells #[.int .i64 0, .int .i64 0] 28 (0, 0)) (hq BK140.out (.c NB140_144.out .n)) NB140_0.out (by simp)); replace BK144 := Aside0.mk (KeepBut.blk hk (g' := gb144) (o := .cells #[.int .i64 t141, .int .i64 t148] 28 (0, 0)) (by refine hp ?_; refine blk_put (cs := #[.int .i64 t141, .int .i64 0]) ?_ 1 _ rfl; exact h0 BK144.out) NB144_0.out (by simp)); replace HK := Aside0.mk (KeepBut.trans (kq HK.out (.c GW140.out (.c GW144.out .n))) hk (.inl rfl)); replace HB := Aside0.mk (hb); replace HI0 := Aside0.mk (hi); (try clear hb); (try clear hb2); (try clear hk); (try clear hi)) | ((with_reducible refine gate_dst (N := 16) rfl ?_); refine Kd.R_lit (Kd.int .i64) _ 2 ?hg_7 (N := 16) ?hd_7 (xs := ([900000000, (-900000000), 0, 1] : List Int)) (inner := [.int .i64 900000000, .int .i64 (-900000000), .int .i64 0, .int .i64 1]) (ok := fun _ => True) (okp := fun _ => True) ?hr_7 ?hp_7 (fun _ hk => hk) trivial (Below.refl _ _) (Nat.le_refl _) (by simp) ?_; (case hd_7 => rfl); (case hg_7 => rfl); (case hr_7 => first | (go_simp; done) | (go_simp; rfl)); (case hp_7 => exact (Reps.one (show Kd.M (Kd.int .i64) _ _ _ 900000000 [.int .i64 900000000] from rfl) (Reps.one (show Kd.M (Kd.int .i64) _ _ _ (-900000000) [.int .i64 (-900000000)] from rfl) (Reps.one (show Kd.M (Kd.int .i64) _ _ _ 0 [.int .i64 0] from rfl) (Reps.one (show Kd.M (Kd.int .i64) _ _ _ 1 [.int .i64 1] from rfl) (Reps.none _ _)))))); intro v153 w17 ho18 hb hg_ hnew_; clear hg_ hnew_; (first | rw [← Ny152.out] at ho18 | (simp only [Int.reduceToNat] at ho18; rw [← Ny152.out] at ho18)); have HO154 := Aside0.mk (Kd.R_lower ho18 (keep_size (w := w) (g := g) (row := none) (kq HK.out (.c GW140.out (.c GW144.out .n))))); replace HI0 := Aside0.mk (IsS106.below (iq HI0.out (.c NB0_140.out (.c NB0_144.out .n))) hb); replace BK140 := Aside0.mk (blk_below (g := gb140) (o := .cells #[.int .i64 0, .int .i64 0] 28 (0, 0)) (h0 BK140.out) hb); replace BK144 := Aside0.mk (blk_below (g := gb144) (o := .cells #[.int .i64 t141, .int .i64 t148] 28 (0, 0)) (h0 BK144.out) hb); replace HK := Aside0.mk (KeepBut.trans (kq HK.out (.c GW140.out (.c GW144.out .n))) (KeepBut.of_below hb g none) (.inl rfl)); replace HB := Aside0.mk (below_step (bq HB.out (.c GE140.out (.c GE144.out .n))) hb); clear hb ho18; obtain ⟨Ao19, co19, eo19⟩ := Kd.R_slice HO154.out; subst eo19) | ((with_reducible refine gate_callee (f := 120) rfl ?_); refine gl (some 17) rfl rfl Tryz.func120 (by kernel_rfl) rfl #[.pointer (some ⟨g, 0, none⟩), .slice Ao19 y152.length co19] rfl ?_; (with_reducible refine (spec_l00Src_among.calls hd g s0_0 t150 t151 _ _ y152 t155 t156 t157 w0 _ ?side1_8 ?side2_8 ?side3_8 ?side4_8 ?side5_8 A7.out).mono ?_); (case side1_8 => exact iq HI0.out (.c NB0_140.out (.c NB0_144.out .n))); (case side2_8 => exact bq HB.out (.c GE140.out (.c GE144.out .n))); (case side3_8 => repeat (first | exact (Kd.R_reads' HO154.out).2.2 | (with_reducible refine Kd.C_alloc ?_ _) | (with_reducible refine Kd.C_drewN ?_ _) | (with_reducible refine Kd.C_drew ?_))); (case side4_8 => exact (Kd.R_reads' HO154.out).2.1); (case side5_8 => exact far_slice (IsS106.own_ne HI0.out HO154.out (by decide))); rintro e w20 ⟨rfl, hi, hb, hk⟩; refine ⟨_, rfl, ?_⟩; replace BK140 := Aside0.mk (KeepBut.blk hk (g' := gb140) (o := .cells #[.int .i64 0, .int .i64 0] 28 (0, 0)) (h0 BK140.out) NB140_0.out (by simp)); replace BK144 := Aside0.mk (KeepBut.blk hk (g' := gb144) (o := .cells #[.int .i64 t141, .int .i64 t148] 28 (0, 0)) (h0 BK144.out) NB144_0.out (by simp)); replace HO154 := Aside0.mk (Kd.R_mono (Kd.R_keep (IsS106.apart (show IsS106 hd w0 _ g s0_0 t150 t151 from iq HI0.out (.c NB0_140.out (.c NB0_144.out .n))) HO154.out (by decide)) hk (fun _ h => h.2)) (fun _ h => h.1)); replace HK := Aside0.mk (KeepBut.trans (kq HK.out (.c GW140.out (.c GW144.out .n))) hk (.inl rfl)); replace HB := Aside0.mk (hb); replace HI0 := Aside0.mk (hi); (try clear hb); (try clear hb2); (try clear hk); (try clear hi); have hcz21_0 : w20.cell? ⟨gb144, 0, none⟩ = some (.int .i64 t141) := (blk_cell BK144.out 0).trans rfl; have hcz21_1 : w20.cell? ⟨gb144, 1, none⟩ = some (.int .i64 t148) := (blk_cell BK144.out 1).trans rfl; have hfz21_0 := blk_frozen BK144.out 0; have hfz21_1 := blk_frozen BK144.out 1; have hnb22 := NB140_0.out; have hnc22 := NB0_140.out; have hcz23_0 : w20.cell? ⟨gb140, 0, none⟩ = some (.int .i64 0) := (blk_cell BK140.out 0).trans rfl; have hcz23_1 : w20.cell? ⟨gb140, 1, none⟩ = some (.int .i64 0) := (blk_cell BK140.out 1).trans rfl; have hfz23_0 := blk_frozen BK140.out 0; have hfz23_1 := blk_frozen BK140.out 1))
  refine bodyPost_ret (results_cell_row rfl _ _ gb140 28 #[.int .i64 t155, .int .i64 t148] (0, 0) _ rfl (by refine hp ?_; refine blk_put (cs := #[.int .i64 t155, .int .i64 0]) ?_ 1 _ rfl; refine hp ?_; refine blk_put (cs := #[.int .i64 0, .int .i64 0]) ?_ 0 _ rfl; exact hq BK140.out (.c NB140_144.out .n)) Tryz.underlying28 rfl (by kernel_rfl)) rfl ?_
  exact ⟨rfl, iq HI0.out (.c NB0_140.out (.c NB0_144.out .n)), bq HB.out (.c GE140.out (.c GE144.out .n)), kq HK.out (.c GW140.out (.c GW144.out .n))⟩
 ·rw [if_neg c6] at H
  have c6b0 : (t149 == 0) = false := beq_eq_false_iff_ne.mpr c6
  have c6b1 : (t149 != 0) = true := bne_iff_ne.mpr c6
  by_cases c24 : t149 = 1
  ·rw [if_pos c24] at H
   have c24b0 : (t149 == 1) = true := beq_iff_eq.mpr c24
   have c24b1 : (t149 != 1) = false := bne_eq_false_iff_eq.mpr c24
   clear c24
   obtain ⟨y158, hy158⟩ : ∃ y_ : List Int, y_ = (([1800000000, (-1799999999), 0, 900000000, (-900000000)] : List Int)) := ⟨_, rfl⟩
   replace H : ((spec_l00Src_among.f s0_0 t150 t151 y158).bind fun bt161 => (some (t141, bt161.1, bt161.2.1, bt161.2.2))) = some (r1, r2, r3, r4) := by first | (rw [hy158]; with_reducible exact H) | (have H2_ := (Option.bind_some _ _).symm.trans H; rw [hy158]; with_reducible exact H2_) | (have H2_ := (Option.bind_some _ _).symm.trans H; with_reducible exact H2_) | with_reducible exact H | (rw [hy158]; exact H) | exact H
   have Ny158 := Aside0.mk hy158
   clear hy158
   replace H := Option.bind_eq_some_iff.mp H
   obtain ⟨⟨t161, t162, t163⟩, A250, H⟩ := H
   replace H : (some (t141, t161, t162, t163)) = some (r1, r2, r3, r4) := H
   have A25 := Aside0.mk A250
   clear A250
   simp only [Option.some.injEq, Prod.mk.injEq] at H
   obtain ⟨rfl, rfl, rfl, rfl⟩ := H
   go_enter Tryz.func55, Tryz.ntmps55
   go_wp2_with (first | ((with_reducible refine gate_dst (N := 2) rfl ?_); refine box_event ?hg_9 (N := 2) ?hd_9 (cs := #[.int .i64 0, .int .i64 0]) (t := 28) ?hr_9 ?_; (case hd_9 => rfl); (case hg_9 => rfl); (case hr_9 => first | (go_simp; done) | (go_simp; rfl)); intro gb140 hg w26 hbox hb; replace HB := Aside0.mk (below_step (b0 HB.out) hb); have BK140 := Aside0.mk (hbox); have GW140 := Aside0.mk ((by rw [hg]; exact (keep_size (w := w) (g := g) (row := none) (k0 HK.out)) : w.heap.size ≤ gb140)); have GE140 := Aside0.mk ((Nat.le_trans HW0.out (by rw [hg]; exact (keep_size (w := w) (g := g) (row := none) (k0 HK.out)) : w.heap.size ≤ gb140) : w0.heap.size ≤ gb140)); replace HK := Aside0.mk (KeepBut.trans (k0 HK.out) (KeepBut.of_below hb g none) (.inl rfl)); have NB0_140 := Aside0.mk ((by rw [hg]; exact Nat.ne_of_lt (IsS106.lt (show IsS106 hd w0 _ g s0_0 s0_1 s0_2 from i0 HI0.out)) : g ≠ gb140)); have NB140_0 := Aside0.mk ((by rw [hg]; exact Nat.ne_of_gt (IsS106.lt (show IsS106 hd w0 _ g s0_0 s0_1 s0_2 from i0 HI0.out)) : gb140 ≠ g)); replace HI0 := Aside0.mk (IsS106.below (i0 HI0.out) hb); clear hb hbox hg) | ((with_reducible refine gate_callee (f := 121) rfl ?_); refine gl (some 5) rfl rfl Tryz.func121 (by kernel_rfl) rfl #[.pointer (some ⟨g, 0, none⟩), .int .i64 900000000] rfl ?_; (with_reducible refine (spec_l05Number.calls k hd g s0_0 s0_1 s0_2 900000000 t141 t142 t143 w0 _ ?side1_10 ?side2_10 A2.out).mono ?_); (case side1_10 => exact iq HI0.out (.c NB0_140.out .n)); (case side2_10 => exact bq HB.out (.c GE140.out .n)); rintro e w27 ⟨rfl, hi, hb, hk⟩; refine ⟨_, rfl, ?_⟩; replace BK140 := Aside0.mk (KeepBut.blk hk (g' := gb140) (o := .cells #[.int .i64 0, .int .i64 0] 28 (0, 0)) (h0 BK140.out) NB140_0.out (by simp)); replace HK := Aside0.mk (KeepBut.trans (kq HK.out (.c GW140.out .n)) hk (.inl rfl)); replace HB := Aside0.mk (hb); replace HI0 := Aside0.mk (hi); (try clear hb); (try clear hb2); (try clear hk); (try clear hi)) | ((with_reducible refine gate_dst (N := 3) rfl ?_); refine box_event ?hg_11 (N := 3) ?hd_11 (cs := #[.int .i64 0, .int .i64 0]) (t := 28) ?hr_11 ?_; (case hd_11 => rfl); (case hg_11 => rfl); (case hr_11 => first | (go_simp; done) | (go_simp; rfl)); intro gb144 hg w28 hbox hb; replace HB := Aside0.mk (below_step (bq HB.out (.c GE140.out .n)) hb); have BK144 := Aside0.mk (hbox); have GW144 := Aside0.mk ((by rw [hg]; exact (keep_size (w := w) (g := g) (row := none) (kq HK.out (.c GW140.out .n))) : w.heap.size ≤ gb144)); have GE144 := Aside0.mk ((Nat.le_trans HW0.out (by rw [hg]; exact (keep_size (w := w) (g := g) (row := none) (kq HK.out (.c GW140.out .n))) : w.heap.size ≤ gb144) : w0.heap.size ≤ gb144)); replace HK := Aside0.mk (KeepBut.trans (kq HK.out (.c GW140.out .n)) (KeepBut.of_below hb g none) (.inl rfl)); have NB140_144 := Aside0.mk ((by rw [hg]; exact Nat.ne_of_lt (blk_lt (g := gb140) (o := .cells #[.int .i64 0, .int .i64 0] 28 (0, 0)) (h0 BK140.out)) : gb140 ≠ gb144)); have NB144_140 := Aside0.mk ((by rw [hg]; exact Nat.ne_of_gt (blk_lt (g := gb140) (o := .cells #[.int .i64 0, .int .i64 0] 28 (0, 0)) (h0 BK140.out)) : gb144 ≠ gb140)); replace BK140 := Aside0.mk (blk_below (g := gb140) (o := .cells #[.int .i64 0, .int .i64 0] 28 (0, 0)) (h0 BK140.out) hb); have NB0_144 := Aside0.mk ((by rw [hg]; exact Nat.ne_of_lt (IsS106.lt (show IsS106 hd w0 _ g s0_0 t142 t143 from iq HI0.out (.c NB0_140.out .n))) : g ≠ gb144)); have NB144_0 := Aside0.mk ((by rw [hg]; exact Nat.ne_of_gt (IsS106.lt (show IsS106 hd w0 _ g s0_0 t142 t143 from iq HI0.out (.c NB0_140.out .n))) : gb144 ≠ g)); replace HI0 := Aside0.mk (IsS106.below (iq HI0.out (.c NB0_140.out .n)) hb); clear hb hbox hg; have hnb29 := NB144_140.out; have hnc29 := NB140_144.out; have hnb30 := NB144_0.out; have hnc30 := NB0_144.out; have hcz31_0 : w28.cell? ⟨gb144, 0, none⟩ = some (.int .i64 0) := (blk_cell BK144.out 0).trans rfl; have hcz31_1 : w28.cell? ⟨gb144, 1, none⟩ = some (.int .i64 0) := (blk_cell BK144.out 1).trans rfl; have hfz31_0 := blk_frozen BK144.out 0; have hfz31_1 := blk_frozen BK144.out 1) | ((with_reducible refine gate_callee (f := 121) rfl ?_); refine gl (some 8) rfl rfl Tryz.func121 (by kernel_rfl) rfl #[.pointer (some ⟨g, 0, none⟩), .int .i64 1800000000] rfl ?_; (with_reducible refine (spec_l05Number.calls k hd g s0_0 t142 t143 1800000000 t145 t146 t147 w0 _ ?side1_12 ?side2_12 A3.out).mono ?_); (case side1_12 => exact iq HI0.out (.c NB0_140.out (.c NB0_144.out .n))); (case side2_12 => exact bq HB.out (.c GE140.out (.c GE144.out .n))); rintro e w32 ⟨rfl, hi, hb, hk⟩; refine ⟨_, rfl, ?_⟩; replace BK140 := Aside0.mk (KeepBut.blk hk (g' := gb140) (o := .cells #[.int .i64 0, .int .i64 0] 28 (0, 0)) (hq BK140.out (.c NB140_144.out .n)) NB140_0.out (by simp)); replace BK144 := Aside0.mk (KeepBut.blk hk (g' := gb144) (o := .cells #[.int .i64 t141, .int .i64 0] 28 (0, 0)) (by refine hp ?_; refine blk_put (cs := #[.int .i64 t141, .int .i64 0]) ?_ 1 _ rfl; refine hp ?_; refine blk_put (cs := #[.int .i64 0, .int .i64 0]) ?_ 0 _ rfl; exact h0 BK144.out) NB144_0.out (by simp)); replace HK := Aside0.mk (KeepBut.trans (kq HK.out (.c GW140.out (.c GW144.out .n))) hk (.inl rfl)); replace HB := Aside0.mk (hb); replace HI0 := Aside0.mk (hi); (try clear hb); (try clear hb2); (try clear hk); (try clear hi)) | ((with_reducible refine gate_callee (f := 122) rfl ?_); refine gl (some 9) rfl rfl Tryz.func122 (by kernel_rfl) rfl #[.int .i64 t145] rfl ?_; (with_reducible refine (spec_l11Wrap.calls t145 t148 _ A4.out).mono ?_); rintro e w' ⟨rfl, ⟨nd, rfl⟩⟩; refine ⟨_, rfl, ?_⟩; (try (rw [drewN_self w32]; generalize hq_ : World.drewN w32 _ = w32; have n0_ : Aside0 (w32.heap[gb140]? = some (.cells #[.int .i64 0, .int .i64 0] 28 (0, 0))) := ⟨by rw [← hq_]; exact (h0 BK140.out)⟩; have n1_ : Aside0 (w32.heap[gb144]? = some (.cells #[.int .i64 t141, .int .i64 0] 28 (0, 0))) := ⟨by rw [← hq_]; exact (h0 BK144.out)⟩; have n2_ : Aside0 (IsS106 hd w0 w32 g s0_0 t146 t147) := ⟨by rw [← hq_]; exact (iq HI0.out (.c NB0_140.out (.c NB0_144.out .n)))⟩; have n3_ : Aside0 (KeepBut w w32 g none) := ⟨by rw [← hq_]; exact (kq HK.out (.c GW140.out (.c GW144.out .n)))⟩; have n4_ : Aside0 (Below w0.heap.size w0 w32) := ⟨by rw [← hq_]; exact (bq HB.out (.c GE140.out (.c GE144.out .n)))⟩; clear BK140 BK144 HI0 HK HB hq_; have BK140 := n0_; have BK144 := n1_; have HI0 := n2_; have HK := n3_; have HB := n4_; clear n0_ n1_ n2_ n3_ n4_)); have hcz33_0 : w32.cell? ⟨gb144, 0, none⟩ = some (.int .i64 t141) := (blk_cell BK144.out 0).trans rfl; have hcz33_1 : w32.cell? ⟨gb144, 1, none⟩ = some (.int .i64 0) := (blk_cell BK144.out 1).trans rfl; have hfz33_0 := blk_frozen BK144.out 0; have hfz33_1 := blk_frozen BK144.out 1) | ((with_reducible refine gate_callee (f := 118) rfl ?_); refine gl (some 12) rfl rfl Tryz.func118 (by kernel_rfl) rfl #[.pointer (some ⟨g, 0, none⟩), .int .i64 10] rfl ?_; (with_reducible refine (spec_l00Src_pick.calls hd g s0_0 t146 t147 10 t149 t150 t151 w0 _ ?side1_14 ?side2_14 A5.out).mono ?_); (case side1_14 => exact iq HI0.out (.c NB0_140.out (.c NB0_144.out .n))); (case side2_14 => exact bq HB.out (.c GE140.out (.c GE144.out .n))); rintro e w34 ⟨rfl, hi, hb, hk⟩; refine ⟨_, rfl, ?_⟩; replace BK140 := Aside0.mk (KeepBut.blk hk (g' := gb140) (o := .cells #[.int .i64 0, .int .i64 0] 28 (0, 0)) (hq BK140.out (.c NB140_144.out .n)) NB140_0.out (by simp)); replace BK144 := Aside0.mk (KeepBut.blk hk (g' := gb144) (o := .cells #[.int .i64 t141, .int .i64 t148] 28 (0, 0)) (by refine hp ?_; refine blk_put (cs := #[.int .i64 t141, .int .i64 0]) ?_ 1 _ rfl; exact h0 BK144.out) NB144_0.out (by simp)); replace HK := Aside0.mk (KeepBut.trans (kq HK.out (.c GW140.out (.c GW144.out .n))) hk (.inl rfl)); replace HB := Aside0.mk (hb); replace HI0 := Aside0.mk (hi); (try clear hb); (try clear hb2); (try clear hk); (try clear hi)) | ((with_reducible refine gate_dst (N := 22) rfl ?_); refine Kd.R_lit (Kd.int .i64) _ 2 ?hg_15 (N := 22) ?hd_15 (xs := ([1800000000, (-1799999999), 0, 900000000, (-900000000)] : List Int)) (inner := [.int .i64 1800000000, .int .i64 (-1799999999), .int .i64 0, .int .i64 900000000, .int .i64 (-900000000)]) (ok := fun _ => True) (okp := fun _ => True) ?hr_15 ?hp_15 (fun _ hk => hk) trivial (Below.refl _ _) (Nat.le_refl _) (by simp) ?_; (case hd_15 => rfl); (case hg_15 => rfl); (case hr_15 => first | (go_simp; done) | (go_simp; rfl)); (case hp_15 => exact (Reps.one (show Kd.M (Kd.int .i64) _ _ _ 1800000000 [.int .i64 1800000000] from rfl) (Reps.one (show Kd.M (Kd.int .i64) _ _ _ (-1799999999) [.int .i64 (-1799999999)] from rfl) (Reps.one (show Kd.M (Kd.int .i64) _ _ _ 0 [.int .i64 0] from rfl) (Reps.one (show Kd.M (Kd.int .i64) _ _ _ 900000000 [.int .i64 900000000] from rfl) (Reps.one (show Kd.M (Kd.int .i64) _ _ _ (-900000000) [.int .i64 (-900000000)] from rfl) (Reps.none _ _))))))); intro v159 w35 ho36 hb hg_ hnew_; clear hg_ hnew_; (first | rw [← Ny158.out] at ho36 | (simp only [Int.reduceToNat] at ho36; rw [← Ny158.out] at ho36)); have HO160 := Aside0.mk (Kd.R_lower ho36 (keep_size (w := w) (g := g) (row := none) (kq HK.out (.c GW140.out (.c GW144.out .n))))); replace HI0 := Aside0.mk (IsS106.below (iq HI0.out (.c NB0_140.out (.c NB0_144.out .n))) hb); replace BK140 := Aside0.mk (blk_below (g := gb140) (o := .cells #[.int .i64 0, .int .i64 0] 28 (0, 0)) (h0 BK140.out) hb); replace BK144 := Aside0.mk (blk_below (g := gb144) (o := .cells #[.int .i64 t141, .int .i64 t148] 28 (0, 0)) (h0 BK144.out) hb); replace HK := Aside0.mk (KeepBut.trans (kq HK.out (.c GW140.out (.c GW144.out .n))) (KeepBut.of_below hb g none) (.inl rfl)); replace HB := Aside0.mk (below_step (bq HB.out (.c GE140.out (.c GE144.out .n))) hb); clear hb ho36; obtain ⟨Ao37, co37, eo37⟩ := Kd.R_slice HO160.out; subst eo37) | ((with_reducible refine gate_callee (f := 120) rfl ?_); refine gl (some 23) rfl rfl Tryz.func120 (by kernel_rfl) rfl #[.pointer (some ⟨g, 0, none⟩), .slice Ao37 y158.length co37] rfl ?_; (with_reducible refine (spec_l00Src_among.calls hd g s0_0 t150 t151 _ _ y158 t161 t162 t163 w0 _ ?side1_16 ?side2_16 ?side3_16 ?side4_16 ?side5_16 A25.out).mono ?_); (case side1_16 => exact iq HI0.out (.c NB0_140.out (.c NB0_144.out .n))); (case side2_16 => exact bq HB.out (.c GE140.out (.c GE144.out .n))); (case side3_16 => repeat (first | exact (Kd.R_reads' HO160.out).2.2 | (with_reducible refine Kd.C_alloc ?_ _) | (with_reducible refine Kd.C_drewN ?_ _) | (with_reducible refine Kd.C_drew ?_))); (case side4_16 => exact (Kd.R_reads' HO160.out).2.1); (case side5_16 => exact far_slice (IsS106.own_ne HI0.out HO160.out (by decide))); rintro e w38 ⟨rfl, hi, hb, hk⟩; refine ⟨_, rfl, ?_⟩; replace BK140 := Aside0.mk (KeepBut.blk hk (g' := gb140) (o := .cells #[.int .i64 0, .int .i64 0] 28 (0, 0)) (h0 BK140.out) NB140_0.out (by simp)); replace BK144 := Aside0.mk (KeepBut.blk hk (g' := gb144) (o := .cells #[.int .i64 t141, .int .i64 t148] 28 (0, 0)) (h0 BK144.out) NB144_0.out (by simp)); replace HO160 := Aside0.mk (Kd.R_mono (Kd.R_keep (IsS106.apart (show IsS106 hd w0 _ g s0_0 t150 t151 from iq HI0.out (.c NB0_140.out (.c NB0_144.out .n))) HO160.out (by decide)) hk (fun _ h => h.2)) (fun _ h => h.1)); replace HK := Aside0.mk (KeepBut.trans (kq HK.out (.c GW140.out (.c GW144.out .n))) hk (.inl rfl)); replace HB := Aside0.mk (hb); replace HI0 := Aside0.mk (hi); (try clear hb); (try clear hb2); (try clear hk); (try clear hi); have hcz39_0 : w38.cell? ⟨gb144, 0, none⟩ = some (.int .i64 t141) := (blk_cell BK144.out 0).trans rfl; have hcz39_1 : w38.cell? ⟨gb144, 1, none⟩ = some (.int .i64 t148) := (blk_cell BK144.out 1).trans rfl; have hfz39_0 := blk_frozen BK144.out 0; have hfz39_1 := blk_frozen BK144.out 1; have hnb40 := NB140_0.out; have hnc40 := NB0_140.out; have hcz41_0 : w38.cell? ⟨gb140, 0, none⟩ = some (.int .i64 0) := (blk_cell BK140.out 0).trans rfl; have hcz41_1 : w38.cell? ⟨gb140, 1, none⟩ = some (.int .i64 0) := (blk_cell BK140.out 1).trans rfl; have hfz41_0 := blk_frozen BK140.out 0; have hfz41_1 := blk_frozen BK140.out 1))
   refine bodyPost_ret (results_cell_row rfl _ _ gb140 28 #[.int .i64 t141, .int .i64 t161] (0, 0) _ rfl (by refine hp ?_; refine blk_put (cs := #[.int .i64 t141, .int .i64 0]) ?_ 1 _ rfl; refine hp ?_; refine blk_put (cs := #[.int .i64 0, .int .i64 0]) ?_ 0 _ rfl; exact hq BK140.out (.c NB140_144.out .n)) Tryz.underlying28 rfl (by kernel_rfl)) rfl ?_
   exact ⟨rfl, iq HI0.out (.c NB0_140.out (.c NB0_144.out .n)), bq HB.out (.c GE140.out (.c GE144.out .n)), kq HK.out (.c GW140.out (.c GW144.out .n))⟩
  ·rw [if_neg c24] at H
   have c24b0 : (t149 == 1) = false := beq_eq_false_iff_ne.mpr c24
   have c24b1 : (t149 != 1) = true := bne_iff_ne.mpr c24
   simp only [Option.some.injEq, Prod.mk.injEq] at H
   obtain ⟨rfl, rfl, rfl, rfl⟩ := H
   go_enter Tryz.func55, Tryz.ntmps55
   go_wp2_with (first | ((with_reducible refine gate_dst (N := 2) rfl ?_); refine box_event ?hg_17 (N := 2) ?hd_17 (cs := #[.int .i64 0, .int .i64 0]) (t := 28) ?hr_17 ?_; (case hd_17 => rfl); (case hg_17 => rfl); (case hr_17 => first | (go_simp; done) | (go_simp; rfl)); intro gb140 hg w42 hbox hb; replace HB := Aside0.mk (below_step (b0 HB.out) hb); have BK140 := Aside0.mk (hbox); have GW140 := Aside0.mk ((by rw [hg]; exact (keep_size (w := w) (g := g) (row := none) (k0 HK.out)) : w.heap.size ≤ gb140)); have GE140 := Aside0.mk ((Nat.le_trans HW0.out (by rw [hg]; exact (keep_size (w := w) (g := g) (row := none) (k0 HK.out)) : w.heap.size ≤ gb140) : w0.heap.size ≤ gb140)); replace HK := Aside0.mk (KeepBut.trans (k0 HK.out) (KeepBut.of_below hb g none) (.inl rfl)); have NB0_140 := Aside0.mk ((by rw [hg]; exact Nat.ne_of_lt (IsS106.lt (show IsS106 hd w0 _ g s0_0 s0_1 s0_2 from i0 HI0.out)) : g ≠ gb140)); have NB140_0 := Aside0.mk ((by rw [hg]; exact Nat.ne_of_gt (IsS106.lt (show IsS106 hd w0 _ g s0_0 s0_1 s0_2 from i0 HI0.out)) : gb140 ≠ g)); replace HI0 := Aside0.mk (IsS106.below (i0 HI0.out) hb); clear hb hbox hg) | ((with_reducible refine gate_callee (f := 121) rfl ?_); refine gl (some 5) rfl rfl Tryz.func121 (by kernel_rfl) rfl #[.pointer (some ⟨g, 0, none⟩), .int .i64 900000000] rfl ?_; (with_reducible refine (spec_l05Number.calls k hd g s0_0 s0_1 s0_2 900000000 t141 t142 t143 w0 _ ?side1_18 ?side2_18 A2.out).mono ?_); (case side1_18 => exact iq HI0.out (.c NB0_140.out .n)); (case side2_18 => exact bq HB.out (.c GE140.out .n)); rintro e w43 ⟨rfl, hi, hb, hk⟩; refine ⟨_, rfl, ?_⟩; replace BK140 := Aside0.mk (KeepBut.blk hk (g' := gb140) (o := .cells #[.int .i64 0, .int .i64 0] 28 (0, 0)) (h0 BK140.out) NB140_0.out (by simp)); replace HK := Aside0.mk (KeepBut.trans (kq HK.out (.c GW140.out .n)) hk (.inl rfl)); replace HB := Aside0.mk (hb); replace HI0 := Aside0.mk (hi); (try clear hb); (try clear hb2); (try clear hk); (try clear hi)) | ((with_reducible refine gate_dst (N := 3) rfl ?_); refine box_event ?hg_19 (N := 3) ?hd_19 (cs := #[.int .i64 0, .int .i64 0]) (t := 28) ?hr_19 ?_; (case hd_19 => rfl); (case hg_19 => rfl); (case hr_19 => first | (go_simp; done) | (go_simp; rfl)); intro gb144 hg w44 hbox hb; replace HB := Aside0.mk (below_step (bq HB.out (.c GE140.out .n)) hb); have BK144 := Aside0.mk (hbox); have GW144 := Aside0.mk ((by rw [hg]; exact (keep_size (w := w) (g := g) (row := none) (kq HK.out (.c GW140.out .n))) : w.heap.size ≤ gb144)); have GE144 := Aside0.mk ((Nat.le_trans HW0.out (by rw [hg]; exact (keep_size (w := w) (g := g) (row := none) (kq HK.out (.c GW140.out .n))) : w.heap.size ≤ gb144) : w0.heap.size ≤ gb144)); replace HK := Aside0.mk (KeepBut.trans (kq HK.out (.c GW140.out .n)) (KeepBut.of_below hb g none) (.inl rfl)); have NB140_144 := Aside0.mk ((by rw [hg]; exact Nat.ne_of_lt (blk_lt (g := gb140) (o := .cells #[.int .i64 0, .int .i64 0] 28 (0, 0)) (h0 BK140.out)) : gb140 ≠ gb144)); have NB144_140 := Aside0.mk ((by rw [hg]; exact Nat.ne_of_gt (blk_lt (g := gb140) (o := .cells #[.int .i64 0, .int .i64 0] 28 (0, 0)) (h0 BK140.out)) : gb144 ≠ gb140)); replace BK140 := Aside0.mk (blk_below (g := gb140) (o := .cells #[.int .i64 0, .int .i64 0] 28 (0, 0)) (h0 BK140.out) hb); have NB0_144 := Aside0.mk ((by rw [hg]; exact Nat.ne_of_lt (IsS106.lt (show IsS106 hd w0 _ g s0_0 t142 t143 from iq HI0.out (.c NB0_140.out .n))) : g ≠ gb144)); have NB144_0 := Aside0.mk ((by rw [hg]; exact Nat.ne_of_gt (IsS106.lt (show IsS106 hd w0 _ g s0_0 t142 t143 from iq HI0.out (.c NB0_140.out .n))) : gb144 ≠ g)); replace HI0 := Aside0.mk (IsS106.below (iq HI0.out (.c NB0_140.out .n)) hb); clear hb hbox hg; have hnb45 := NB144_140.out; have hnc45 := NB140_144.out; have hnb46 := NB144_0.out; have hnc46 := NB0_144.out; have hcz47_0 : w44.cell? ⟨gb144, 0, none⟩ = some (.int .i64 0) := (blk_cell BK144.out 0).trans rfl; have hcz47_1 : w44.cell? ⟨gb144, 1, none⟩ = some (.int .i64 0) := (blk_cell BK144.out 1).trans rfl; have hfz47_0 := blk_frozen BK144.out 0; have hfz47_1 := blk_frozen BK144.out 1) | ((with_reducible refine gate_callee (f := 121) rfl ?_); refine gl (some 8) rfl rfl Tryz.func121 (by kernel_rfl) rfl #[.pointer (some ⟨g, 0, none⟩), .int .i64 1800000000] rfl ?_; (with_reducible refine (spec_l05Number.calls k hd g s0_0 t142 t143 1800000000 t145 t146 t147 w0 _ ?side1_20 ?side2_20 A3.out).mono ?_); (case side1_20 => exact iq HI0.out (.c NB0_140.out (.c NB0_144.out .n))); (case side2_20 => exact bq HB.out (.c GE140.out (.c GE144.out .n))); rintro e w48 ⟨rfl, hi, hb, hk⟩; refine ⟨_, rfl, ?_⟩; replace BK140 := Aside0.mk (KeepBut.blk hk (g' := gb140) (o := .cells #[.int .i64 0, .int .i64 0] 28 (0, 0)) (hq BK140.out (.c NB140_144.out .n)) NB140_0.out (by simp)); replace BK144 := Aside0.mk (KeepBut.blk hk (g' := gb144) (o := .cells #[.int .i64 t141, .int .i64 0] 28 (0, 0)) (by refine hp ?_; refine blk_put (cs := #[.int .i64 t141, .int .i64 0]) ?_ 1 _ rfl; refine hp ?_; refine blk_put (cs := #[.int .i64 0, .int .i64 0]) ?_ 0 _ rfl; exact h0 BK144.out) NB144_0.out (by simp)); replace HK := Aside0.mk (KeepBut.trans (kq HK.out (.c GW140.out (.c GW144.out .n))) hk (.inl rfl)); replace HB := Aside0.mk (hb); replace HI0 := Aside0.mk (hi); (try clear hb); (try clear hb2); (try clear hk); (try clear hi)) | ((with_reducible refine gate_callee (f := 122) rfl ?_); refine gl (some 9) rfl rfl Tryz.func122 (by kernel_rfl) rfl #[.int .i64 t145] rfl ?_; (with_reducible refine (spec_l11Wrap.calls t145 t148 _ A4.out).mono ?_); rintro e w' ⟨rfl, ⟨nd, rfl⟩⟩; refine ⟨_, rfl, ?_⟩; (try (rw [drewN_self w48]; generalize hq_ : World.drewN w48 _ = w48; have n0_ : Aside0 (w48.heap[gb140]? = some (.cells #[.int .i64 0, .int .i64 0] 28 (0, 0))) := ⟨by rw [← hq_]; exact (h0 BK140.out)⟩; have n1_ : Aside0 (w48.heap[gb144]? = some (.cells #[.int .i64 t141, .int .i64 0] 28 (0, 0))) := ⟨by rw [← hq_]; exact (h0 BK144.out)⟩; have n2_ : Aside0 (IsS106 hd w0 w48 g s0_0 t146 t147) := ⟨by rw [← hq_]; exact (iq HI0.out (.c NB0_140.out (.c NB0_144.out .n)))⟩; have n3_ : Aside0 (KeepBut w w48 g none) := ⟨by rw [← hq_]; exact (kq HK.out (.c GW140.out (.c GW144.out .n)))⟩; have n4_ : Aside0 (Below w0.heap.size w0 w48) := ⟨by rw [← hq_]; exact (bq HB.out (.c GE140.out (.c GE144.out .n)))⟩; clear BK140 BK144 HI0 HK HB hq_; have BK140 := n0_; have BK144 := n1_; have HI0 := n2_; have HK := n3_; have HB := n4_; clear n0_ n1_ n2_ n3_ n4_)); have hcz49_0 : w48.cell? ⟨gb144, 0, none⟩ = some (.int .i64 t141) := (blk_cell BK144.out 0).trans rfl; have hcz49_1 : w48.cell? ⟨gb144, 1, none⟩ = some (.int .i64 0) := (blk_cell BK144.out 1).trans rfl; have hfz49_0 := blk_frozen BK144.out 0; have hfz49_1 := blk_frozen BK144.out 1) | ((with_reducible refine gate_callee (f := 118) rfl ?_); refine gl (some 12) rfl rfl Tryz.func118 (by kernel_rfl) rfl #[.pointer (some ⟨g, 0, none⟩), .int .i64 10] rfl ?_; (with_reducible refine (spec_l00Src_pick.calls hd g s0_0 t146 t147 10 t149 t150 t151 w0 _ ?side1_22 ?side2_22 A5.out).mono ?_); (case side1_22 => exact iq HI0.out (.c NB0_140.out (.c NB0_144.out .n))); (case side2_22 => exact bq HB.out (.c GE140.out (.c GE144.out .n))); rintro e w50 ⟨rfl, hi, hb, hk⟩; refine ⟨_, rfl, ?_⟩; replace BK140 := Aside0.mk (KeepBut.blk hk (g' := gb140) (o := .cells #[.int .i64 0, .int .i64 0] 28 (0, 0)) (hq BK140.out (.c NB140_144.out .n)) NB140_0.out (by simp)); replace BK144 := Aside0.mk (KeepBut.blk hk (g' := gb144) (o := .cells #[.int .i64 t141, .int .i64 t148] 28 (0, 0)) (by refine hp ?_; refine blk_put (cs := #[.int .i64 t141, .int .i64 0]) ?_ 1 _ rfl; exact h0 BK144.out) NB144_0.out (by simp)); replace HK := Aside0.mk (KeepBut.trans (kq HK.out (.c GW140.out (.c GW144.out .n))) hk (.inl rfl)); replace HB := Aside0.mk (hb); replace HI0 := Aside0.mk (hi); (try clear hb); (try clear hb2); (try clear hk); (try clear hi); have hcz51_0 : w50.cell? ⟨gb144, 0, none⟩ = some (.int .i64 t141) := (blk_cell BK144.out 0).trans rfl; have hcz51_1 : w50.cell? ⟨gb144, 1, none⟩ = some (.int .i64 t148) := (blk_cell BK144.out 1).trans rfl; have hfz51_0 := blk_frozen BK144.out 0; have hfz51_1 := blk_frozen BK144.out 1; have hnb52 := NB140_0.out; have hnc52 := NB0_140.out; have hcz53_0 : w50.cell? ⟨gb140, 0, none⟩ = some (.int .i64 0) := (blk_cell BK140.out 0).trans rfl; have hcz53_1 : w50.cell? ⟨gb140, 1, none⟩ = some (.int .i64 0) := (blk_cell BK140.out 1).trans rfl; have hfz53_0 := blk_frozen BK140.out 0; have hfz53_1 := blk_frozen BK140.out 1))
   refine bodyPost_ret (results_cell_row rfl _ _ gb140 28 #[.int .i64 t141, .int .i64 t148] (0, 0) _ rfl (by refine hp ?_; refine blk_put (cs := #[.int .i64 t141, .int .i64 0]) ?_ 1 _ rfl; refine hp ?_; refine blk_put (cs := #[.int .i64 0, .int .i64 0]) ?_ 0 _ rfl; exact h0 BK140.out) Tryz.underlying28 rfl (by kernel_rfl)) rfl ?_
   exact ⟨rfl, iq HI0.out (.c NB0_140.out (.c NB0_144.out .n)), bq HB.out (.c GE140.out (.c GE144.out .n)), kq HK.out (.c GW140.out (.c GW144.out .n))⟩
def spec_A2Points.f (k : Nat) (l0 : List Int) : Option (Int × Int × Int × Int × Int × Int) := (spec_l00From.f l0).bind fun bt167 => ((spec_l11Draw.f k bt167.1 bt167.2.1 bt167.2.2).bind fun bt171 => ((spec_l11Draw.f k bt167.1 bt171.2.2.1 bt171.2.2.2).bind fun bt176 => ((spec_l11Draw.f k bt167.1 bt176.2.2.1 bt176.2.2.2).bind fun bt181 => (some (bt171.1, bt171.2.1, bt176.1, bt176.2.1, bt181.1, bt181.2.1)))))
set_option maxHeartbeats 8000000 in
set_option maxRecDepth 100000 in
theorem spec_A2Points.calls (k : Nat) (A0 : Option Addr) (c0 : Nat) (l0 : List Int) (r1 : Int) (r2 : Int) (r3 : Int) (r4 : Int) (r5 : Int) (r6 : Int) (w : World) (hr0 : Kd.C (Kd.int .u8) w A0 l0.length l0) (hc0 : l0.length ≤ c0) (h : spec_A2Points.f k l0 = some (r1, r2, r3, r4, r5, r6)) :
  Calls Tryz.prog 8 #[.slice A0 l0.length c0] w fun e w' => e = .returned (.tuple #[.agg #[.int .i64 r1, .int .i64 r2], .agg #[.int .i64 r3, .int .i64 r4], .agg #[.int .i64 r5, .int .i64 r6]]) ∧ Below w.heap.size w w' := by
 have hu28 := Tryz.underlying28
 have HR0 := Aside0.mk hr0
 have HC0 := Aside0.mk hc0
 clear hr0 hc0
 have HB := Aside0.mk (Below.refl w.heap.size w)
 have H : ((spec_l00From.f l0).bind fun bt167 => ((spec_l11Draw.f k bt167.1 bt167.2.1 bt167.2.2).bind fun bt171 => ((spec_l11Draw.f k bt167.1 bt171.2.2.1 bt171.2.2.2).bind fun bt176 => ((spec_l11Draw.f k bt167.1 bt176.2.2.1 bt176.2.2.2).bind fun bt181 => (some (bt171.1, bt171.2.1, bt176.1, bt176.2.1, bt181.1, bt181.2.1)))))) = some (r1, r2, r3, r4, r5, r6) := h
 clear h
 replace H := Option.bind_eq_some_iff.mp H
 obtain ⟨⟨t167, t168, t169⟩, A20, H⟩ := H
 replace H : ((spec_l11Draw.f k t167 t168 t169).bind fun bt171 => ((spec_l11Draw.f k t167 bt171.2.2.1 bt171.2.2.2).bind fun bt176 => ((spec_l11Draw.f k t167 bt176.2.2.1 bt176.2.2.2).bind fun bt181 => (some (bt171.1, bt171.2.1, bt176.1, bt176.2.1, bt181.1, bt181.2.1))))) = some (r1, r2, r3, r4, r5, r6) := H
 have A2 := Aside0.mk A20
 clear A20
 replace H := Option.bind_eq_some_iff.mp H
 obtain ⟨⟨t171, t172, t173, t174⟩, A30, H⟩ := H
 replace H : ((spec_l11Draw.f k t167 t173 t174).bind fun bt176 => ((spec_l11Draw.f k t167 bt176.2.2.1 bt176.2.2.2).bind fun bt181 => (some (t171, t172, bt176.1, bt176.2.1, bt181.1, bt181.2.1)))) = some (r1, r2, r3, r4, r5, r6) := H
 have A3 := Aside0.mk A30
 clear A30
 replace H := Option.bind_eq_some_iff.mp H
 obtain ⟨⟨t176, t177, t178, t179⟩, A40, H⟩ := H
 replace H : ((spec_l11Draw.f k t167 t178 t179).bind fun bt181 => (some (t171, t172, t176, t177, bt181.1, bt181.2.1))) = some (r1, r2, r3, r4, r5, r6) := H
 have A4 := Aside0.mk A40
 clear A40
 replace H := Option.bind_eq_some_iff.mp H
 obtain ⟨⟨t181, t182, t183, t184⟩, A50, H⟩ := H
 replace H : (some (t171, t172, t176, t177, t181, t182)) = some (r1, r2, r3, r4, r5, r6) := H
 have A5 := Aside0.mk A50
 clear A50
 simp only [Option.some.injEq, Prod.mk.injEq] at H
 obtain ⟨rfl, rfl, rfl, rfl, rfl, rfl⟩ := H
 go_enter Tryz.func8, Tryz.ntmps8
 try go_wp2_with (first | ((with_reducible refine gate_dst (N := 2) rfl ?_); refine box_event ?hg_23 (N := 2) ?hd_23 (cs := #[.int .i64 0, .int .i64 0]) (t := 28) ?hr_23 ?_; (case hd_23 => rfl); (case hg_23 => rfl); (case hr_23 => first | (go_simp; done) | (go_simp; rfl)); intro gb164 hg w6 hbox hb; have BK164 := Aside0.mk (hbox); have GW164 := Aside0.mk ((by rw [hg]; exact (below_size (b0 HB.out)) : w.heap.size ≤ gb164)); have GE164 := Aside0.mk ((by rw [hg]; exact (below_size (b0 HB.out)) : w.heap.size ≤ gb164)); replace HB := Aside0.mk (below_step (b0 HB.out) hb); clear hb hbox hg) | ((with_reducible refine gate_dst (N := 3) rfl ?_); refine box_event ?hg_24 (N := 3) ?hd_24 (cs := #[.int .i64 0, .int .i64 0]) (t := 28) ?hr_24 ?_; (case hd_24 => rfl); (case hg_24 => rfl); (case hr_24 => first | (go_simp; done) | (go_simp; rfl)); intro gb165 hg w7 hbox hb; have BK165 := Aside0.mk (hbox); have GW165 := Aside0.mk ((by rw [hg]; exact (below_size (bq HB.out (.c GE164.out .n))) : w.heap.size ≤ gb165)); have GE165 := Aside0.mk ((by rw [hg]; exact (below_size (bq HB.out (.c GE164.out .n))) : w.heap.size ≤ gb165)); replace HB := Aside0.mk (below_step (bq HB.out (.c GE164.out .n)) hb); have NB164_165 := Aside0.mk ((by rw [hg]; exact Nat.ne_of_lt (blk_lt (g := gb164) (o := .cells #[.int .i64 0, .int .i64 0] 28 (0, 0)) (h0 BK164.out)) : gb164 ≠ gb165)); have NB165_164 := Aside0.mk ((by rw [hg]; exact Nat.ne_of_gt (blk_lt (g := gb164) (o := .cells #[.int .i64 0, .int .i64 0] 28 (0, 0)) (h0 BK164.out)) : gb165 ≠ gb164)); replace BK164 := Aside0.mk (blk_below (g := gb164) (o := .cells #[.int .i64 0, .int .i64 0] 28 (0, 0)) (h0 BK164.out) hb); clear hb hbox hg) | ((with_reducible refine gate_dst (N := 4) rfl ?_); refine box_event ?hg_25 (N := 4) ?hd_25 (cs := #[.int .i64 0, .int .i64 0]) (t := 28) ?hr_25 ?_; (case hd_25 => rfl); (case hg_25 => rfl); (case hr_25 => first | (go_simp; done) | (go_simp; rfl)); intro gb166 hg w8 hbox hb; have BK166 := Aside0.mk (hbox); have GW166 := Aside0.mk ((by rw [hg]; exact (below_size (bq HB.out (.c GE164.out (.c GE165.out .n)))) : w.heap.size ≤ gb166)); have GE166 := Aside0.mk ((by rw [hg]; exact (below_size (bq HB.out (.c GE164.out (.c GE165.out .n)))) : w.heap.size ≤ gb166)); replace HB := Aside0.mk (below_step (bq HB.out (.c GE164.out (.c GE165.out .n))) hb); have NB164_166 := Aside0.mk ((by rw [hg]; exact Nat.ne_of_lt (blk_lt (g := gb164) (o := .cells #[.int .i64 0, .int .i64 0] 28 (0, 0)) (h0 BK164.out)) : gb164 ≠ gb166)); have NB166_164 := Aside0.mk ((by rw [hg]; exact Nat.ne_of_gt (blk_lt (g := gb164) (o := .cells #[.int .i64 0, .int .i64 0] 28 (0, 0)) (h0 BK164.out)) : gb166 ≠ gb164)); replace BK164 := Aside0.mk (blk_below (g := gb164) (o := .cells #[.int .i64 0, .int .i64 0] 28 (0, 0)) (h0 BK164.out) hb); have NB165_166 := Aside0.mk ((by rw [hg]; exact Nat.ne_of_lt (blk_lt (g := gb165) (o := .cells #[.int .i64 0, .int .i64 0] 28 (0, 0)) (h0 BK165.out)) : gb165 ≠ gb166)); have NB166_165 := Aside0.mk ((by rw [hg]; exact Nat.ne_of_gt (blk_lt (g := gb165) (o := .cells #[.int .i64 0, .int .i64 0] 28 (0, 0)) (h0 BK165.out)) : gb166 ≠ gb165)); replace BK165 := Aside0.mk (blk_below (g := gb165) (o := .cells #[.int .i64 0, .int .i64 0] 28 (0, 0)) (h0 BK165.out) hb); clear hb hbox hg) | ((with_reducible refine gate_callee (f := 54) rfl ?_); refine gl (some 9) rfl rfl Tryz.func54 (by kernel_rfl) rfl #[.slice A0 l0.length c0] rfl ?_; (with_reducible refine (spec_l00From.calls _ _ l0 t167 t168 t169 w _ ?side1_26 ?side2_26 ?side3_26 A2.out).mono ?_); (case side1_26 => exact bq HB.out (.c GE164.out (.c GE165.out (.c GE166.out .n)))); (case side2_26 => exact HR0.out); (case side3_26 => exact HC0.out); rintro e w9 ⟨g170, rfl, hi, hb, hb2⟩; refine ⟨_, rfl, ?_⟩; replace HB := Aside0.mk (hb); have HI170 := Aside0.mk (hi); have NB170_164 := Aside0.mk (IsS106.ne_blk hi (blk_below (g := gb164) (o := .cells #[.int .i64 0, .int .i64 0] 28 (0, 0)) (h0 BK164.out) hb2) (by decide)); have NB164_170 := Aside0.mk (Ne.symm (IsS106.ne_blk hi (blk_below (g := gb164) (o := .cells #[.int .i64 0, .int .i64 0] 28 (0, 0)) (h0 BK164.out) hb2) (by decide))); replace BK164 := Aside0.mk (blk_below (g := gb164) (o := .cells #[.int .i64 0, .int .i64 0] 28 (0, 0)) (h0 BK164.out) hb2); have NB170_165 := Aside0.mk (IsS106.ne_blk hi (blk_below (g := gb165) (o := .cells #[.int .i64 0, .int .i64 0] 28 (0, 0)) (h0 BK165.out) hb2) (by decide)); have NB165_170 := Aside0.mk (Ne.symm (IsS106.ne_blk hi (blk_below (g := gb165) (o := .cells #[.int .i64 0, .int .i64 0] 28 (0, 0)) (h0 BK165.out) hb2) (by decide))); replace BK165 := Aside0.mk (blk_below (g := gb165) (o := .cells #[.int .i64 0, .int .i64 0] 28 (0, 0)) (h0 BK165.out) hb2); have NB170_166 := Aside0.mk (IsS106.ne_blk hi (blk_below (g := gb166) (o := .cells #[.int .i64 0, .int .i64 0] 28 (0, 0)) (h0 BK166.out) hb2) (by decide)); have NB166_170 := Aside0.mk (Ne.symm (IsS106.ne_blk hi (blk_below (g := gb166) (o := .cells #[.int .i64 0, .int .i64 0] 28 (0, 0)) (h0 BK166.out) hb2) (by decide))); replace BK166 := Aside0.mk (blk_below (g := gb166) (o := .cells #[.int .i64 0, .int .i64 0] 28 (0, 0)) (h0 BK166.out) hb2); (try clear hb); (try clear hb2); (try clear hk); (try clear hi)) | ((with_reducible refine gate_callee (f := 55) rfl ?_); refine gl (some 11) rfl rfl Tryz.func55 (by kernel_rfl) rfl #[.pointer (some ⟨g170, 0, none⟩)] rfl ?_; (with_reducible refine (spec_l11Draw.calls k (A0, c0) g170 t167 t168 t169 t171 t172 t173 t174 w _ ?side1_27 ?side2_27 A3.out).mono ?_); (case side1_27 => exact iq HI170.out (.c NB170_164.out (.c NB170_165.out (.c NB170_166.out .n)))); (case side2_27 => exact bq HB.out (.c GE164.out (.c GE165.out (.c GE166.out .n)))); rintro e w10 ⟨rfl, hi, hb, hk⟩; refine ⟨_, rfl, ?_⟩; replace BK164 := Aside0.mk (KeepBut.blk hk (g' := gb164) (o := .cells #[.int .i64 0, .int .i64 0] 28 (0, 0)) (h0 BK164.out) NB164_170.out (by simp)); replace BK165 := Aside0.mk (KeepBut.blk hk (g' := gb165) (o := .cells #[.int .i64 0, .int .i64 0] 28 (0, 0)) (h0 BK165.out) NB165_170.out (by simp)); replace BK166 := Aside0.mk (KeepBut.blk hk (g' := gb166) (o := .cells #[.int .i64 0, .int .i64 0] 28 (0, 0)) (h0 BK166.out) NB166_170.out (by simp)); replace HB := Aside0.mk (hb); replace HI170 := Aside0.mk (hi); (try clear hb); (try clear hb2); (try clear hk); (try clear hi)) | ((with_reducible refine gate_dst (N := 6) rfl ?_); refine box_event ?hg_28 (N := 6) ?hd_28 (cs := #[.int .i64 0, .int .i64 0]) (t := 28) ?hr_28 ?_; (case hd_28 => rfl); (case hg_28 => rfl); (case hr_28 => first | (go_simp; done) | (go_simp; rfl)); intro gb175 hg w11 hbox hb; have BK175 := Aside0.mk (hbox); have GW175 := Aside0.mk ((by rw [hg]; exact (below_size (bq HB.out (.c GE164.out (.c GE165.out (.c GE166.out .n))))) : w.heap.size ≤ gb175)); have GE175 := Aside0.mk ((by rw [hg]; exact (below_size (bq HB.out (.c GE164.out (.c GE165.out (.c GE166.out .n))))) : w.heap.size ≤ gb175)); replace HB := Aside0.mk (below_step (bq HB.out (.c GE164.out (.c GE165.out (.c GE166.out .n)))) hb); have NB164_175 := Aside0.mk ((by rw [hg]; exact Nat.ne_of_lt (blk_lt (g := gb164) (o := .cells #[.int .i64 0, .int .i64 0] 28 (0, 0)) (h0 BK164.out)) : gb164 ≠ gb175)); have NB175_164 := Aside0.mk ((by rw [hg]; exact Nat.ne_of_gt (blk_lt (g := gb164) (o := .cells #[.int .i64 0, .int .i64 0] 28 (0, 0)) (h0 BK164.out)) : gb175 ≠ gb164)); replace BK164 := Aside0.mk (blk_below (g := gb164) (o := .cells #[.int .i64 0, .int .i64 0] 28 (0, 0)) (h0 BK164.out) hb); have NB165_175 := Aside0.mk ((by rw [hg]; exact Nat.ne_of_lt (blk_lt (g := gb165) (o := .cells #[.int .i64 0, .int .i64 0] 28 (0, 0)) (h0 BK165.out)) : gb165 ≠ gb175)); have NB175_165 := Aside0.mk ((by rw [hg]; exact Nat.ne_of_gt (blk_lt (g := gb165) (o := .cells #[.int .i64 0, .int .i64 0] 28 (0, 0)) (h0 BK165.out)) : gb175 ≠ gb165)); replace BK165 := Aside0.mk (blk_below (g := gb165) (o := .cells #[.int .i64 0, .int .i64 0] 28 (0, 0)) (h0 BK165.out) hb); have NB166_175 := Aside0.mk ((by rw [hg]; exact Nat.ne_of_lt (blk_lt (g := gb166) (o := .cells #[.int .i64 0, .int .i64 0] 28 (0, 0)) (h0 BK166.out)) : gb166 ≠ gb175)); have NB175_166 := Aside0.mk ((by rw [hg]; exact Nat.ne_of_gt (blk_lt (g := gb166) (o := .cells #[.int .i64 0, .int .i64 0] 28 (0, 0)) (h0 BK166.out)) : gb175 ≠ gb166)); replace BK166 := Aside0.mk (blk_below (g := gb166) (o := .cells #[.int .i64 0, .int .i64 0] 28 (0, 0)) (h0 BK166.out) hb); have NB170_175 := Aside0.mk ((by rw [hg]; exact Nat.ne_of_lt (IsS106.lt (show IsS106 (A0, c0) w _ g170 t167 t173 t174 from iq HI170.out (.c NB170_164.out (.c NB170_165.out (.c NB170_166.out .n))))) : g170 ≠ gb175)); have NB175_170 := Aside0.mk ((by rw [hg]; exact Nat.ne_of_gt (IsS106.lt (show IsS106 (A0, c0) w _ g170 t167 t173 t174 from iq HI170.out (.c NB170_164.out (.c NB170_165.out (.c NB170_166.out .n))))) : gb175 ≠ g170)); replace HI170 := Aside0.mk (IsS106.below (iq HI170.out (.c NB170_164.out (.c NB170_165.out (.c NB170_166.out .n)))) hb); clear hb hbox hg; have hnb12 := NB175_164.out; have hnc12 := NB164_175.out; have hnb13 := NB175_165.out; have hnc13 := NB165_175.out; have hnb14 := NB175_166.out; have hnc14 := NB166_175.out; have hnb15 := NB175_170.out; have hnc15 := NB170_175.out; have hcz16_0 : w11.cell? ⟨gb175, 0, none⟩ = some (.int .i64 0) := (blk_cell BK175.out 0).trans rfl; have hcz16_1 : w11.cell? ⟨gb175, 1, none⟩ = some (.int .i64 0) := (blk_cell BK175.out 1).trans rfl; have hfz16_0 := blk_frozen BK175.out 0; have hfz16_1 := blk_frozen BK175.out 1) | ((with_reducible refine gate_callee (f := 55) rfl ?_); refine gl (some 13) rfl rfl Tryz.func55 (by kernel_rfl) rfl #[.pointer (some ⟨g170, 0, none⟩)] rfl ?_; (with_reducible refine (spec_l11Draw.calls k (A0, c0) g170 t167 t173 t174 t176 t177 t178 t179 w _ ?side1_29 ?side2_29 A4.out).mono ?_); (case side1_29 => exact iq HI170.out (.c NB170_164.out (.c NB170_165.out (.c NB170_166.out (.c NB170_175.out .n))))); (case side2_29 => exact bq HB.out (.c GE164.out (.c GE165.out (.c GE166.out (.c GE175.out .n))))); rintro e w17 ⟨rfl, hi, hb, hk⟩; refine ⟨_, rfl, ?_⟩; replace BK164 := Aside0.mk (KeepBut.blk hk (g' := gb164) (o := .cells #[.int .i64 0, .int .i64 0] 28 (0, 0)) (hq BK164.out (.c NB164_175.out .n)) NB164_170.out (by simp)); replace BK165 := Aside0.mk (KeepBut.blk hk (g' := gb165) (o := .cells #[.int .i64 0, .int .i64 0] 28 (0, 0)) (hq BK165.out (.c NB165_175.out .n)) NB165_170.out (by simp)); replace BK166 := Aside0.mk (KeepBut.blk hk (g' := gb166) (o := .cells #[.int .i64 0, .int .i64 0] 28 (0, 0)) (hq BK166.out (.c NB166_175.out .n)) NB166_170.out (by simp)); replace BK175 := Aside0.mk (KeepBut.blk hk (g' := gb175) (o := .cells #[.int .i64 t171, .int .i64 t172] 28 (0, 0)) (by refine hp ?_; refine blk_put (cs := #[.int .i64 t171, .int .i64 0]) ?_ 1 _ rfl; refine hp ?_; refine blk_put (cs := #[.int .i64 0, .int .i64 0]) ?_ 0 _ rfl; exact h0 BK175.out) NB175_170.out (by simp)); replace HB := Aside0.mk (hb); replace HI170 := Aside0.mk (hi); (try clear hb); (try clear hb2); (try clear hk); (try clear hi)) | ((with_reducible refine gate_dst (N := 7) rfl ?_); refine box_event ?hg_30 (N := 7) ?hd_30 (cs := #[.int .i64 0, .int .i64 0]) (t := 28) ?hr_30 ?_; (case hd_30 => rfl); (case hg_30 => rfl); (case hr_30 => first | (go_simp; done) | (go_simp; rfl)); intro gb180 hg w18 hbox hb; have BK180 := Aside0.mk (hbox); have GW180 := Aside0.mk ((by rw [hg]; exact (below_size (bq HB.out (.c GE164.out (.c GE165.out (.c GE166.out (.c GE175.out .n)))))) : w.heap.size ≤ gb180)); have GE180 := Aside0.mk ((by rw [hg]; exact (below_size (bq HB.out (.c GE164.out (.c GE165.out (.c GE166.out (.c GE175.out .n)))))) : w.heap.size ≤ gb180)); replace HB := Aside0.mk (below_step (bq HB.out (.c GE164.out (.c GE165.out (.c GE166.out (.c GE175.out .n))))) hb); have NB164_180 := Aside0.mk ((by rw [hg]; exact Nat.ne_of_lt (blk_lt (g := gb164) (o := .cells #[.int .i64 0, .int .i64 0] 28 (0, 0)) (h0 BK164.out)) : gb164 ≠ gb180)); have NB180_164 := Aside0.mk ((by rw [hg]; exact Nat.ne_of_gt (blk_lt (g := gb164) (o := .cells #[.int .i64 0, .int .i64 0] 28 (0, 0)) (h0 BK164.out)) : gb180 ≠ gb164)); replace BK164 := Aside0.mk (blk_below (g := gb164) (o := .cells #[.int .i64 0, .int .i64 0] 28 (0, 0)) (h0 BK164.out) hb); have NB165_180 := Aside0.mk ((by rw [hg]; exact Nat.ne_of_lt (blk_lt (g := gb165) (o := .cells #[.int .i64 0, .int .i64 0] 28 (0, 0)) (h0 BK165.out)) : gb165 ≠ gb180)); have NB180_165 := Aside0.mk ((by rw [hg]; exact Nat.ne_of_gt (blk_lt (g := gb165) (o := .cells #[.int .i64 0, .int .i64 0] 28 (0, 0)) (h0 BK165.out)) : gb180 ≠ gb165)); replace BK165 := Aside0.mk (blk_below (g := gb165) (o := .cells #[.int .i64 0, .int .i64 0] 28 (0, 0)) (h0 BK165.out) hb); have NB166_180 := Aside0.mk ((by rw [hg]; exact Nat.ne_of_lt (blk_lt (g := gb166) (o := .cells #[.int .i64 0, .int .i64 0] 28 (0, 0)) (h0 BK166.out)) : gb166 ≠ gb180)); have NB180_166 := Aside0.mk ((by rw [hg]; exact Nat.ne_of_gt (blk_lt (g := gb166) (o := .cells #[.int .i64 0, .int .i64 0] 28 (0, 0)) (h0 BK166.out)) : gb180 ≠ gb166)); replace BK166 := Aside0.mk (blk_below (g := gb166) (o := .cells #[.int .i64 0, .int .i64 0] 28 (0, 0)) (h0 BK166.out) hb); have NB175_180 := Aside0.mk ((by rw [hg]; exact Nat.ne_of_lt (blk_lt (g := gb175) (o := .cells #[.int .i64 t171, .int .i64 t172] 28 (0, 0)) (h0 BK175.out)) : gb175 ≠ gb180)); have NB180_175 := Aside0.mk ((by rw [hg]; exact Nat.ne_of_gt (blk_lt (g := gb175) (o := .cells #[.int .i64 t171, .int .i64 t172] 28 (0, 0)) (h0 BK175.out)) : gb180 ≠ gb175)); replace BK175 := Aside0.mk (blk_below (g := gb175) (o := .cells #[.int .i64 t171, .int .i64 t172] 28 (0, 0)) (h0 BK175.out) hb); have NB170_180 := Aside0.mk ((by rw [hg]; exact Nat.ne_of_lt (IsS106.lt (show IsS106 (A0, c0) w _ g170 t167 t178 t179 from iq HI170.out (.c NB170_164.out (.c NB170_165.out (.c NB170_166.out (.c NB170_175.out .n)))))) : g170 ≠ gb180)); have NB180_170 := Aside0.mk ((by rw [hg]; exact Nat.ne_of_gt (IsS106.lt (show IsS106 (A0, c0) w _ g170 t167 t178 t179 from iq HI170.out (.c NB170_164.out (.c NB170_165.out (.c NB170_166.out (.c NB170_175.out .n)))))) : gb180 ≠ g170)); replace HI170 := Aside0.mk (IsS106.below (iq HI170.out (.c NB170_164.out (.c NB170_165.out (.c NB170_166.out (.c NB170_175.out .n))))) hb); clear hb hbox hg; have hnb19 := NB180_164.out; have hnc19 := NB164_180.out; have hnb20 := NB180_165.out; have hnc20 := NB165_180.out; have hnb21 := NB180_166.out; have hnc21 := NB166_180.out; have hnb22 := NB180_175.out; have hnc22 := NB175_180.out; have hnb23 := NB180_170.out; have hnc23 := NB170_180.out; have hcz24_0 : w18.cell? ⟨gb180, 0, none⟩ = some (.int .i64 0) := (blk_cell BK180.out 0).trans rfl; have hcz24_1 : w18.cell? ⟨gb180, 1, none⟩ = some (.int .i64 0) := (blk_cell BK180.out 1).trans rfl; have hfz24_0 := blk_frozen BK180.out 0; have hfz24_1 := blk_frozen BK180.out 1))
 have n0_ : Aside0 (((w18.setCell ⟨gb180, 0, none⟩ (.int .i64 t176)).setCell ⟨gb180, 1, none⟩ (.int .i64 t177)).heap[gb164]? = some (.cells #[.int .i64 0, .int .i64 0] 28 (0, 0))) := ⟨by (with_reducible repeat (first | refine blk_drewN ?_ _ | refine blk_drew ?_ | refine blk_alloc ?_ _)); refine blk_far ?_ NB164_180.out _; (with_reducible repeat (first | refine blk_drewN ?_ _ | refine blk_drew ?_ | refine blk_alloc ?_ _)); refine blk_far ?_ NB164_180.out _; (with_reducible repeat (first | refine blk_drewN ?_ _ | refine blk_drew ?_ | refine blk_alloc ?_ _)); exact BK164.out⟩
 have n1_ : Aside0 (((w18.setCell ⟨gb180, 0, none⟩ (.int .i64 t176)).setCell ⟨gb180, 1, none⟩ (.int .i64 t177)).heap[gb165]? = some (.cells #[.int .i64 0, .int .i64 0] 28 (0, 0))) := ⟨by (with_reducible repeat (first | refine blk_drewN ?_ _ | refine blk_drew ?_ | refine blk_alloc ?_ _)); refine blk_far ?_ NB165_180.out _; (with_reducible repeat (first | refine blk_drewN ?_ _ | refine blk_drew ?_ | refine blk_alloc ?_ _)); refine blk_far ?_ NB165_180.out _; (with_reducible repeat (first | refine blk_drewN ?_ _ | refine blk_drew ?_ | refine blk_alloc ?_ _)); exact BK165.out⟩
 have n2_ : Aside0 (((w18.setCell ⟨gb180, 0, none⟩ (.int .i64 t176)).setCell ⟨gb180, 1, none⟩ (.int .i64 t177)).heap[gb166]? = some (.cells #[.int .i64 0, .int .i64 0] 28 (0, 0))) := ⟨by (with_reducible repeat (first | refine blk_drewN ?_ _ | refine blk_drew ?_ | refine blk_alloc ?_ _)); refine blk_far ?_ NB166_180.out _; (with_reducible repeat (first | refine blk_drewN ?_ _ | refine blk_drew ?_ | refine blk_alloc ?_ _)); refine blk_far ?_ NB166_180.out _; (with_reducible repeat (first | refine blk_drewN ?_ _ | refine blk_drew ?_ | refine blk_alloc ?_ _)); exact BK166.out⟩
 have n3_ : Aside0 (((w18.setCell ⟨gb180, 0, none⟩ (.int .i64 t176)).setCell ⟨gb180, 1, none⟩ (.int .i64 t177)).heap[gb175]? = some (.cells #[.int .i64 t171, .int .i64 t172] 28 (0, 0))) := ⟨by (with_reducible repeat (first | refine blk_drewN ?_ _ | refine blk_drew ?_ | refine blk_alloc ?_ _)); refine blk_far ?_ NB175_180.out _; (with_reducible repeat (first | refine blk_drewN ?_ _ | refine blk_drew ?_ | refine blk_alloc ?_ _)); refine blk_far ?_ NB175_180.out _; (with_reducible repeat (first | refine blk_drewN ?_ _ | refine blk_drew ?_ | refine blk_alloc ?_ _)); exact BK175.out⟩
 have n4_ : Aside0 (((w18.setCell ⟨gb180, 0, none⟩ (.int .i64 t176)).setCell ⟨gb180, 1, none⟩ (.int .i64 t177)).heap[gb180]? = some (.cells #[.int .i64 t176, .int .i64 t177] 28 (0, 0))) := ⟨by (with_reducible repeat (first | refine blk_drewN ?_ _ | refine blk_drew ?_ | refine blk_alloc ?_ _)); refine blk_put (cs := #[.int .i64 t176, .int .i64 0]) ?_ 1 _ rfl; (with_reducible repeat (first | refine blk_drewN ?_ _ | refine blk_drew ?_ | refine blk_alloc ?_ _)); refine blk_put (cs := #[.int .i64 0, .int .i64 0]) ?_ 0 _ rfl; (with_reducible repeat (first | refine blk_drewN ?_ _ | refine blk_drew ?_ | refine blk_alloc ?_ _)); exact BK180.out⟩
 have n5_ : Aside0 (IsS106 (A0, c0) w ((w18.setCell ⟨gb180, 0, none⟩ (.int .i64 t176)).setCell ⟨gb180, 1, none⟩ (.int .i64 t177)) g170 t167 t178 t179) := ⟨by repeat (first | (with_reducible first | exact HI170.out | apply IsS106.alloc | apply IsS106.drewN | apply IsS106.drew | apply IsS106.set_1 | apply IsS106.set_2 | refine IsS106.far ?_ NB170_164.out _ | refine IsS106.far ?_ NB170_165.out _ | refine IsS106.far ?_ NB170_166.out _ | refine IsS106.far ?_ NB170_175.out _ | refine IsS106.far ?_ NB170_180.out _) | exact HI170.out)⟩
 have n6_ : Aside0 (Below w.heap.size w ((w18.setCell ⟨gb180, 0, none⟩ (.int .i64 t176)).setCell ⟨gb180, 1, none⟩ (.int .i64 t177))) := ⟨by repeat (first | (with_reducible first | exact HB.out | apply below_alloc | apply pw_below_drewN | apply below_drew1 | refine below_set ?_ (IsS106.ge HI170.out) | refine below_set ?_ GE164.out | refine below_set ?_ GE165.out | refine below_set ?_ GE166.out | refine below_set ?_ GE175.out | refine below_set ?_ GE180.out) | exact HB.out)⟩
 (try clear BK164)
 (try clear BK165)
 (try clear BK166)
 (try clear BK175)
 (try clear BK180)
 (try clear HI170)
 (try clear HB)
 generalize ((w18.setCell ⟨gb180, 0, none⟩ (.int .i64 t176)).setCell ⟨gb180, 1, none⟩ (.int .i64 t177)) = w25 at n0_ n1_ n2_ n3_ n4_ n5_ n6_ ⊢
 have BK164 := n0_
 have BK165 := n1_
 have BK166 := n2_
 have BK175 := n3_
 have BK180 := n4_
 have HI170 := n5_
 have HB := n6_
 clear n0_ n1_ n2_ n3_ n4_ n5_ n6_
 have n0_ := Aside0.mk (blk_drew BK164.out)
 have n1_ := Aside0.mk (blk_drew BK165.out)
 have n2_ := Aside0.mk (blk_drew BK166.out)
 have n3_ := Aside0.mk (blk_drew BK175.out)
 have n4_ := Aside0.mk (blk_drew BK180.out)
 have n5_ := Aside0.mk (IsS106.drew HI170.out)
 have n6_ := Aside0.mk (below_drew1 HB.out)
 clear BK164
 clear BK165
 clear BK166
 clear BK175
 clear BK180
 clear HI170
 clear HB
 have BK164 := n0_
 have BK165 := n1_
 have BK166 := n2_
 have BK175 := n3_
 have BK180 := n4_
 have HI170 := n5_
 have HB := n6_
 clear n0_ n1_ n2_ n3_ n4_ n5_ n6_
 refine start_ (n := 7) (S := fun w' => w'.cell? ⟨gb175, 0, none⟩ = some (.int .i64 t171) ∧ w'.cell? ⟨gb175, 1, none⟩ = some (.int .i64 t172) ∧ w'.cell? ⟨gb180, 0, none⟩ = some (.int .i64 t176) ∧ w'.cell? ⟨gb180, 1, none⟩ = some (.int .i64 t177)) (ds := []) #[false, false, false, false, false, false, false] (by kernel_rfl) rfl rfl ⟨(blk_cell BK175.out 0).trans rfl, (blk_cell BK175.out 1).trans rfl, (blk_cell BK180.out 0).trans rfl, (blk_cell BK180.out 1).trans rfl⟩ (fun hHeld => ?_)
 generalize w25.drew = w26 at BK164 BK165 BK166 BK175 BK180 HI170 HB hHeld ⊢
 refine pure_ (i := 2) (N := some 16) (v := ?_) (a' := ?_) #[false, false, true, false, false, false, false] rfl rfl (by kernel_rfl) (fun _ _ _ h => h) (Or.inl ⟨by rfl, ?_⟩) ?_ ?_
 rotate_left
 ·intro w'
  go_simp
  with_reducible rfl
 rotate_left
 ·simp only [Act.put, List.setIfInBounds_toArray, List.set_cons_zero, List.set_cons_succ, i64_w, i32_w]
  rfl
 refine take_ (i := 0) (N := some 14) (v := ?_) (a' := ?_) #[true, false, true, false, false, false, false] rfl rfl (by kernel_rfl) (fun _ _ _ h => h) (Or.inl ⟨by rfl, ?_⟩) hHeld ?_ ?_
 rotate_left
 ·rintro w' ⟨s0, s1, s2, s3⟩
  go_simp
  with_reducible rfl
 rotate_left
 ·simp only [Act.put, List.setIfInBounds_toArray, List.set_cons_zero, List.set_cons_succ, i64_w, i32_w]
  rfl
 refine take_ (i := 1) (N := some 15) (v := ?_) (a' := ?_) #[true, true, true, false, false, false, false] rfl rfl (by kernel_rfl) (fun _ _ _ h => h) (Or.inl ⟨by rfl, ?_⟩) hHeld ?_ ?_
 rotate_left
 ·rintro w' ⟨s0, s1, s2, s3⟩
  go_simp
  with_reducible rfl
 rotate_left
 ·simp only [Act.put, List.setIfInBounds_toArray, List.set_cons_zero, List.set_cons_succ, i64_w, i32_w]
  rfl
 refine one_ (i := 3) (N := some 17) #[true, true, true, true, false, false, false] rfl rfl (by kernel_rfl) (by decide) (fun K hK => ?_)
 refine goes_ Tryz.func55 (by kernel_rfl) rfl #[.pointer (some ⟨g170, 0, none⟩)] (by rfl) rfl rfl (by (try simp only [List.map_toArray, List.map_cons, List.map_nil]); first | done | rfl | (simp only [List.length_drop, List.length_take]; rfl)) ?_
 with_reducible refine (spec_l11Draw.calls k (A0, c0) g170 t167 t178 t179 t181 t182 t183 t184 w _ ?side1 ?side2 A5.out).mono ?_
 (case side1 => repeat (first | (with_reducible first | exact HI170.out | apply IsS106.alloc | apply IsS106.drewN | apply IsS106.drew | apply IsS106.set_1 | apply IsS106.set_2 | refine IsS106.far ?_ NB170_164.out _ | refine IsS106.far ?_ NB170_165.out _ | refine IsS106.far ?_ NB170_166.out _ | refine IsS106.far ?_ NB170_175.out _ | refine IsS106.far ?_ NB170_180.out _) | exact HI170.out))
 (case side2 => repeat (first | (with_reducible first | exact HB.out | apply below_alloc | apply pw_below_drewN | apply below_drew1 | refine below_set ?_ (IsS106.ge HI170.out) | refine below_set ?_ GE164.out | refine below_set ?_ GE165.out | refine below_set ?_ GE166.out | refine below_set ?_ GE175.out | refine below_set ?_ GE180.out) | exact HB.out))
 rintro e w27 ⟨rfl, hi, hb, hk⟩
 refine ⟨_, rfl, ?_⟩
 have n0_ := Aside0.mk (KeepBut.blk hk (g' := gb164) (o := .cells #[.int .i64 0, .int .i64 0] 28 (0, 0)) (by (with_reducible repeat (first | refine blk_drewN ?_ _ | refine blk_drew ?_ | refine blk_alloc ?_ _)); exact BK164.out) NB164_170.out (by simp))
 have n1_ := Aside0.mk (KeepBut.blk hk (g' := gb165) (o := .cells #[.int .i64 0, .int .i64 0] 28 (0, 0)) (by (with_reducible repeat (first | refine blk_drewN ?_ _ | refine blk_drew ?_ | refine blk_alloc ?_ _)); exact BK165.out) NB165_170.out (by simp))
 have n2_ := Aside0.mk (KeepBut.blk hk (g' := gb166) (o := .cells #[.int .i64 0, .int .i64 0] 28 (0, 0)) (by (with_reducible repeat (first | refine blk_drewN ?_ _ | refine blk_drew ?_ | refine blk_alloc ?_ _)); exact BK166.out) NB166_170.out (by simp))
 have n3_ := Aside0.mk (KeepBut.blk hk (g' := gb175) (o := .cells #[.int .i64 t171, .int .i64 t172] 28 (0, 0)) (by (with_reducible repeat (first | refine blk_drewN ?_ _ | refine blk_drew ?_ | refine blk_alloc ?_ _)); exact BK175.out) NB175_170.out (by simp))
 have n4_ := Aside0.mk (KeepBut.blk hk (g' := gb180) (o := .cells #[.int .i64 t176, .int .i64 t177] 28 (0, 0)) (by (with_reducible repeat (first | refine blk_drewN ?_ _ | refine blk_drew ?_ | refine blk_alloc ?_ _)); exact BK180.out) NB180_170.out (by simp))
 have n5_ := Aside0.mk (hb)
 have n6_ := Aside0.mk (hi)
 clear BK164
 clear BK165
 clear BK166
 clear BK175
 clear BK180
 clear HB
 clear HI170
 have BK164 := n0_
 have BK165 := n1_
 have BK166 := n2_
 have BK175 := n3_
 have BK180 := n4_
 have HB := n5_
 have HI170 := n6_
 clear n0_ n1_ n2_ n3_ n4_ n5_ n6_
 (try clear hb)
 (try clear hb2)
 (try clear hk)
 (try clear hi)
 refine hK.out _ _ ⟨(blk_cell BK175.out 0).trans rfl, (blk_cell BK175.out 1).trans rfl, (blk_cell BK180.out 0).trans rfl, (blk_cell BK180.out 1).trans rfl⟩ (fun hHeld => ?_)
 clear hK K
 refine norm_ (a' := ?_) ?_ ?_
 rotate_left
 ·show Act.put _ (some 17) _ = _
  simp only [Act.put, List.setIfInBounds_toArray, List.set_cons_zero, List.set_cons_succ, i64_w, i32_w]
  rfl
 refine one_ (i := 4) (N := none) #[true, true, true, true, true, false, false] rfl rfl (by kernel_rfl) (by decide) (fun K hK => ?_)
 have hs28 : w27.cell? ⟨gb164, 0, none⟩ = some (.int .i64 0) := (blk_cell BK164.out 0).trans rfl
 have hfs28 := blk_frozen BK164.out 0
 have hns28_1 := NB165_164.out
 have hns28_2 := NB166_164.out
 have hns28_3 := NB175_164.out
 have hns28_4 := NB180_164.out
 have hms28_1 := NB164_165.out
 have hms28_2 := NB164_166.out
 have hms28_3 := NB164_175.out
 have hms28_4 := NB164_180.out
 have hs29 : w27.cell? ⟨gb164, 1, none⟩ = some (.int .i64 0) := (blk_cell BK164.out 1).trans rfl
 have hfs29 := blk_frozen BK164.out 1
 have hns29_1 := NB165_164.out
 have hns29_2 := NB166_164.out
 have hns29_3 := NB175_164.out
 have hns29_4 := NB180_164.out
 have hms29_1 := NB164_165.out
 have hms29_2 := NB164_166.out
 have hms29_3 := NB164_175.out
 have hms29_4 := NB164_180.out
 refine skip_ (w1 := ?_) (by rfl) rfl ?_ ?_
 rotate_left
 ·go_simp
  rfl
 refine hK.out _ _ ⟨((cell_far (p := ⟨gb164, _, none⟩) NB175_164.out _).trans (((cell_far (p := ⟨gb164, _, none⟩) NB175_164.out _).trans (hHeld.1)))), ((cell_far (p := ⟨gb164, _, none⟩) NB175_164.out _).trans (((cell_far (p := ⟨gb164, _, none⟩) NB175_164.out _).trans (hHeld.2.1)))), ((cell_far (p := ⟨gb164, _, none⟩) NB180_164.out _).trans (((cell_far (p := ⟨gb164, _, none⟩) NB180_164.out _).trans (hHeld.2.2.1)))), ((cell_far (p := ⟨gb164, _, none⟩) NB180_164.out _).trans (((cell_far (p := ⟨gb164, _, none⟩) NB180_164.out _).trans (hHeld.2.2.2))))⟩ (fun hHeld => ?_)
 clear hK K
 refine one_ (i := 5) (N := none) #[true, true, true, true, true, true, false] rfl rfl (by kernel_rfl) (by decide) (fun K hK => ?_)
 have hs30 : w27.cell? ⟨gb165, 0, none⟩ = some (.int .i64 0) := (blk_cell BK165.out 0).trans rfl
 have hfs30 := blk_frozen BK165.out 0
 have hns30_0 := NB164_165.out
 have hns30_2 := NB166_165.out
 have hns30_3 := NB175_165.out
 have hns30_4 := NB180_165.out
 have hms30_0 := NB165_164.out
 have hms30_2 := NB165_166.out
 have hms30_3 := NB165_175.out
 have hms30_4 := NB165_180.out
 have hs31 : w27.cell? ⟨gb165, 1, none⟩ = some (.int .i64 0) := (blk_cell BK165.out 1).trans rfl
 have hfs31 := blk_frozen BK165.out 1
 have hns31_0 := NB164_165.out
 have hns31_2 := NB166_165.out
 have hns31_3 := NB175_165.out
 have hns31_4 := NB180_165.out
 have hms31_0 := NB165_164.out
 have hms31_2 := NB165_166.out
 have hms31_3 := NB165_175.out
 have hms31_4 := NB165_180.out
 refine skip_ (w1 := ?_) (by rfl) rfl ?_ ?_
 rotate_left
 ·go_simp
  rfl
 refine hK.out _ _ ⟨((cell_far (p := ⟨gb165, _, none⟩) NB175_165.out _).trans (((cell_far (p := ⟨gb165, _, none⟩) NB175_165.out _).trans (hHeld.1)))), ((cell_far (p := ⟨gb165, _, none⟩) NB175_165.out _).trans (((cell_far (p := ⟨gb165, _, none⟩) NB175_165.out _).trans (hHeld.2.1)))), ((cell_far (p := ⟨gb165, _, none⟩) NB180_165.out _).trans (((cell_far (p := ⟨gb165, _, none⟩) NB180_165.out _).trans (hHeld.2.2.1)))), ((cell_far (p := ⟨gb165, _, none⟩) NB180_165.out _).trans (((cell_far (p := ⟨gb165, _, none⟩) NB180_165.out _).trans (hHeld.2.2.2))))⟩ (fun hHeld => ?_)
 clear hK K
 refine one_ (i := 6) (N := none) #[true, true, true, true, true, true, true] rfl rfl (by kernel_rfl) (by decide) (fun K hK => ?_)
 have hs32 : w27.cell? ⟨gb166, 0, none⟩ = some (.int .i64 0) := (blk_cell BK166.out 0).trans rfl
 have hfs32 := blk_frozen BK166.out 0
 have hns32_0 := NB164_166.out
 have hns32_1 := NB165_166.out
 have hns32_3 := NB175_166.out
 have hns32_4 := NB180_166.out
 have hms32_0 := NB166_164.out
 have hms32_1 := NB166_165.out
 have hms32_3 := NB166_175.out
 have hms32_4 := NB166_180.out
 have hs33 : w27.cell? ⟨gb166, 1, none⟩ = some (.int .i64 0) := (blk_cell BK166.out 1).trans rfl
 have hfs33 := blk_frozen BK166.out 1
 have hns33_0 := NB164_166.out
 have hns33_1 := NB165_166.out
 have hns33_3 := NB175_166.out
 have hns33_4 := NB180_166.out
 have hms33_0 := NB166_164.out
 have hms33_1 := NB166_165.out
 have hms33_3 := NB166_175.out
 have hms33_4 := NB166_180.out
 refine skip_ (w1 := ?_) (by rfl) rfl ?_ ?_
 rotate_left
 ·go_simp
  rfl
 refine hK.out _ _ ⟨((cell_far (p := ⟨gb166, _, none⟩) NB175_166.out _).trans (((cell_far (p := ⟨gb166, _, none⟩) NB175_166.out _).trans (hHeld.1)))), ((cell_far (p := ⟨gb166, _, none⟩) NB175_166.out _).trans (((cell_far (p := ⟨gb166, _, none⟩) NB175_166.out _).trans (hHeld.2.1)))), ((cell_far (p := ⟨gb166, _, none⟩) NB180_166.out _).trans (((cell_far (p := ⟨gb166, _, none⟩) NB180_166.out _).trans (hHeld.2.2.1)))), ((cell_far (p := ⟨gb166, _, none⟩) NB180_166.out _).trans (((cell_far (p := ⟨gb166, _, none⟩) NB180_166.out _).trans (hHeld.2.2.2))))⟩ (fun hHeld => ?_)
 clear hK K
 refine done_ (by kernel_rfl) ?_
 try go_wp2
 refine bodyPost_ret (results_list (rs := [.cell 2 28, .cell 3 28, .cell 4 28]) rfl (by simp) (.cell gb164 28 #[.int .i64 t171, .int .i64 t172] (0, 0) _ rfl (by (with_reducible repeat (first | refine blk_drewN ?_ _ | refine blk_drew ?_ | refine blk_alloc ?_ _)); refine blk_far ?_ NB164_166.out _; (with_reducible repeat (first | refine blk_drewN ?_ _ | refine blk_drew ?_ | refine blk_alloc ?_ _)); refine blk_far ?_ NB164_166.out _; (with_reducible repeat (first | refine blk_drewN ?_ _ | refine blk_drew ?_ | refine blk_alloc ?_ _)); refine blk_far ?_ NB164_165.out _; (with_reducible repeat (first | refine blk_drewN ?_ _ | refine blk_drew ?_ | refine blk_alloc ?_ _)); refine blk_far ?_ NB164_165.out _; (with_reducible repeat (first | refine blk_drewN ?_ _ | refine blk_drew ?_ | refine blk_alloc ?_ _)); refine blk_put (cs := #[.int .i64 t171, .int .i64 0]) ?_ 1 _ rfl; (with_reducible repeat (first | refine blk_drewN ?_ _ | refine blk_drew ?_ | refine blk_alloc ?_ _)); refine blk_put (cs := #[.int .i64 0, .int .i64 0]) ?_ 0 _ rfl; (with_reducible repeat (first | refine blk_drewN ?_ _ | refine blk_drew ?_ | refine blk_alloc ?_ _)); exact BK164.out) Tryz.underlying28 rfl (by kernel_rfl) (.cell gb165 28 #[.int .i64 t176, .int .i64 t177] (0, 0) _ rfl (by (with_reducible repeat (first | refine blk_drewN ?_ _ | refine blk_drew ?_ | refine blk_alloc ?_ _)); refine blk_far ?_ NB165_166.out _; (with_reducible repeat (first | refine blk_drewN ?_ _ | refine blk_drew ?_ | refine blk_alloc ?_ _)); refine blk_far ?_ NB165_166.out _; (with_reducible repeat (first | refine blk_drewN ?_ _ | refine blk_drew ?_ | refine blk_alloc ?_ _)); refine blk_put (cs := #[.int .i64 t176, .int .i64 0]) ?_ 1 _ rfl; (with_reducible repeat (first | refine blk_drewN ?_ _ | refine blk_drew ?_ | refine blk_alloc ?_ _)); refine blk_put (cs := #[.int .i64 0, .int .i64 0]) ?_ 0 _ rfl; (with_reducible repeat (first | refine blk_drewN ?_ _ | refine blk_drew ?_ | refine blk_alloc ?_ _)); refine blk_far ?_ NB165_164.out _; (with_reducible repeat (first | refine blk_drewN ?_ _ | refine blk_drew ?_ | refine blk_alloc ?_ _)); refine blk_far ?_ NB165_164.out _; (with_reducible repeat (first | refine blk_drewN ?_ _ | refine blk_drew ?_ | refine blk_alloc ?_ _)); exact BK165.out) Tryz.underlying28 rfl (by kernel_rfl) (.cell gb166 28 #[.int .i64 t181, .int .i64 t182] (0, 0) _ rfl (by (with_reducible repeat (first | refine blk_drewN ?_ _ | refine blk_drew ?_ | refine blk_alloc ?_ _)); refine blk_put (cs := #[.int .i64 t181, .int .i64 0]) ?_ 1 _ rfl; (with_reducible repeat (first | refine blk_drewN ?_ _ | refine blk_drew ?_ | refine blk_alloc ?_ _)); refine blk_put (cs := #[.int .i64 0, .int .i64 0]) ?_ 0 _ rfl; (with_reducible repeat (first | refine blk_drewN ?_ _ | refine blk_drew ?_ | refine blk_alloc ?_ _)); refine blk_far ?_ NB166_165.out _; (with_reducible repeat (first | refine blk_drewN ?_ _ | refine blk_drew ?_ | refine blk_alloc ?_ _)); refine blk_far ?_ NB166_165.out _; (with_reducible repeat (first | refine blk_drewN ?_ _ | refine blk_drew ?_ | refine blk_alloc ?_ _)); refine blk_far ?_ NB166_164.out _; (with_reducible repeat (first | refine blk_drewN ?_ _ | refine blk_drew ?_ | refine blk_alloc ?_ _)); refine blk_far ?_ NB166_164.out _; (with_reducible repeat (first | refine blk_drewN ?_ _ | refine blk_drew ?_ | refine blk_alloc ?_ _)); exact BK166.out) Tryz.underlying28 rfl (by kernel_rfl) .nil)))) rfl ?_
 exact ⟨by first | rfl | (simp [errW_none, errW_some] <;> rfl) | (simp [*, errW_none, errW_some] <;> rfl), by repeat (first | (with_reducible first | exact HB.out | apply below_alloc | apply pw_below_drewN | apply below_drew1 | refine below_set ?_ (IsS106.ge HI170.out) | refine below_set ?_ GE164.out | refine below_set ?_ GE165.out | refine below_set ?_ GE166.out | refine below_set ?_ GE175.out | refine below_set ?_ GE180.out) | exact HB.out)⟩
def spec_l12Wgs.f  : Option (Int × Int × Int) := some (6378137000, 1000000000, 298257223563)
set_option maxHeartbeats 8000000 in
set_option maxRecDepth 100000 in
theorem spec_l12Wgs.calls  (r1 : Int) (r2 : Int) (r3 : Int) (w : World) (h : spec_l12Wgs.f  = some (r1, r2, r3)) :
  Calls Tryz.prog 119 #[] w fun e w' => e = .returned (.agg #[.int .i64 r1, .int .i64 r2, .int .i64 r3]) ∧ Below w.heap.size w w' := by
 have hu25 := Tryz.underlying25
 have HB := Aside0.mk (Below.refl w.heap.size w)
 have H : (some (6378137000, 1000000000, 298257223563)) = some (r1, r2, r3) := h
 clear h
 simp only [Option.some.injEq, Prod.mk.injEq] at H
 obtain ⟨rfl, rfl, rfl⟩ := H
 go_enter Tryz.func119, Tryz.ntmps119
 go_wp2_with (first | ((with_reducible refine gate_dst (N := 0) rfl ?_); refine box_event ?hg (N := 0) ?hd (cs := #[.int .i64 0, .int .i64 0, .int .i64 0]) (t := 25) ?hr ?_; (case hd => rfl); (case hg => rfl); (case hr => first | (go_simp; done) | (go_simp; rfl)); intro gb185 hg w1 hbox hb; have BK185 := Aside0.mk (hbox); have GW185 := Aside0.mk ((by rw [hg]; exact (below_size (b0 HB.out)) : w.heap.size ≤ gb185)); have GE185 := Aside0.mk ((by rw [hg]; exact (below_size (b0 HB.out)) : w.heap.size ≤ gb185)); replace HB := Aside0.mk (below_step (b0 HB.out) hb); clear hb hbox hg; have hcz2_0 : w1.cell? ⟨gb185, 0, none⟩ = some (.int .i64 0) := (blk_cell BK185.out 0).trans rfl; have hcz2_1 : w1.cell? ⟨gb185, 1, none⟩ = some (.int .i64 0) := (blk_cell BK185.out 1).trans rfl; have hcz2_2 : w1.cell? ⟨gb185, 2, none⟩ = some (.int .i64 0) := (blk_cell BK185.out 2).trans rfl; have hfz2_0 := blk_frozen BK185.out 0; have hfz2_1 := blk_frozen BK185.out 1; have hfz2_2 := blk_frozen BK185.out 2))
 refine bodyPost_ret (results_cell_row rfl _ _ gb185 25 #[.int .i64 6378137000, .int .i64 1000000000, .int .i64 298257223563] (0, 0) _ rfl (by refine hp ?_; refine blk_put (cs := #[.int .i64 6378137000, .int .i64 1000000000, .int .i64 0]) ?_ 2 _ rfl; refine hp ?_; refine blk_put (cs := #[.int .i64 6378137000, .int .i64 0, .int .i64 0]) ?_ 1 _ rfl; refine hp ?_; refine blk_put (cs := #[.int .i64 0, .int .i64 0, .int .i64 0]) ?_ 0 _ rfl; exact h0 BK185.out) Tryz.underlying25 rfl (by kernel_rfl)) rfl ?_
 exact ⟨rfl, bq HB.out (.c GE185.out .n)⟩
def spec_l12Draw.f (s0_0 : List Int) (s0_1 : Int) (s0_2 : Int) : Option (Int × Int × Int × Int × Int) := (spec_l00Src_pick.f s0_0 s0_1 s0_2 5).bind fun bt187 => (if bt187.1 = 0 then ((spec_l12Wgs.f).bind fun bt190 => (some (bt190.1, bt190.2.1, bt190.2.2, bt187.2.1, bt187.2.2))) else (if bt187.1 = 1 then ((spec_l00Src_among.f s0_0 bt187.2.1 bt187.2.2 (([6371000000, 1000, 1000000, 100000000000] : List Int))).bind fun bt196 => (some (bt196.1, 0, 1, bt196.2.1, bt196.2.2))) else (if bt187.1 = 2 then (some (6377397155, 1000000, 299152813, bt187.2.1, bt187.2.2)) else ((spec_l00Src_pick.f s0_0 bt187.2.1 bt187.2.2 9000000).bind fun bt199 => ((spec_l00Src_among.f s0_0 bt199.2.1 bt199.2.2 (([100, 150, 200, 300, 1000, 100000] : List Int))).bind fun bt205 => (some (wrap64 (1000 * (wrap64 (1 + bt199.1))), 1, bt205.1, bt205.2.1, bt205.2.2)))))))
set_option maxHeartbeats 8000000 in
set_option maxRecDepth 100000 in
theorem spec_l12Draw.calls (hd : Option Addr × Nat) (g : Nat) (s0_0 : List Int) (s0_1 : Int) (s0_2 : Int) (r1 : Int) (r2 : Int) (r3 : Int) (r4 : Int) (r5 : Int) (w0 w : World) (hI : IsS106 hd w0 w g s0_0 s0_1 s0_2) (hB : Below w0.heap.size w0 w) (h : spec_l12Draw.f s0_0 s0_1 s0_2 = some (r1, r2, r3, r4, r5)) :
  Calls Tryz.prog 53 #[.pointer (some ⟨g, 0, none⟩)] w fun e w' => e = .returned (.agg #[.int .i64 r1, .int .i64 r2, .int .i64 r3]) ∧ IsS106 hd w0 w' g s0_0 r4 r5 ∧ Below w0.heap.size w0 w' ∧ KeepBut w w' g none := by
 have hu25 := Tryz.underlying25
 have HI0 := Aside0.mk hI
 have HK := Aside0.mk (KeepBut.refl w g none)
 have HL := Aside0.mk hB.size
 clear hI
 have HW0 := Aside0.mk hB.size
 have HB := Aside0.mk hB
 clear hB
 have H : ((spec_l00Src_pick.f s0_0 s0_1 s0_2 5).bind fun bt187 => (if bt187.1 = 0 then ((spec_l12Wgs.f).bind fun bt190 => (some (bt190.1, bt190.2.1, bt190.2.2, bt187.2.1, bt187.2.2))) else (if bt187.1 = 1 then ((spec_l00Src_among.f s0_0 bt187.2.1 bt187.2.2 (([6371000000, 1000, 1000000, 100000000000] : List Int))).bind fun bt196 => (some (bt196.1, 0, 1, bt196.2.1, bt196.2.2))) else (if bt187.1 = 2 then (some (6377397155, 1000000, 299152813, bt187.2.1, bt187.2.2)) else ((spec_l00Src_pick.f s0_0 bt187.2.1 bt187.2.2 9000000).bind fun bt199 => ((spec_l00Src_among.f s0_0 bt199.2.1 bt199.2.2 (([100, 150, 200, 300, 1000, 100000] : List Int))).bind fun bt205 => (some (wrap64 (1000 * (wrap64 (1 + bt199.1))), 1, bt205.1, bt205.2.1, bt205.2.2)))))))) = some (r1, r2, r3, r4, r5) := h
 clear h
 replace H := Option.bind_eq_some_iff.mp H
 obtain ⟨⟨t187, t188, t189⟩, A20, H⟩ := H
 replace H : (if t187 = 0 then ((spec_l12Wgs.f).bind fun bt190 => (some (bt190.1, bt190.2.1, bt190.2.2, t188, t189))) else (if t187 = 1 then ((spec_l00Src_among.f s0_0 t188 t189 (([6371000000, 1000, 1000000, 100000000000] : List Int))).bind fun bt196 => (some (bt196.1, 0, 1, bt196.2.1, bt196.2.2))) else (if t187 = 2 then (some (6377397155, 1000000, 299152813, t188, t189)) else ((spec_l00Src_pick.f s0_0 t188 t189 9000000).bind fun bt199 => ((spec_l00Src_among.f s0_0 bt199.2.1 bt199.2.2 (([100, 150, 200, 300, 1000, 100000] : List Int))).bind fun bt205 => (some (wrap64 (1000 * (wrap64 (1 + bt199.1))), 1, bt205.1, bt205.2.1, bt205.2.2))))))) = some (r1, r2, r3, r4, r5) := H
 have A2 := Aside0.mk A20
 clear A20
 by_cases c3 : t187 = 0
 ·rw [if_pos c3] at H
  have c3b0 : (t187 == 0) = true := beq_iff_eq.mpr c3
  have c3b1 : (t187 != 0) = false := bne_eq_false_iff_eq.mpr c3
  clear c3
  replace H := Option.bind_eq_some_iff.mp H
  obtain ⟨⟨t190, t191, t192⟩, A40, H⟩ := H
  replace H : (some (t190, t191, t192, t188, t189)) = some (r1, r2, r3, r4, r5) := H
  have A4 := Aside0.mk A40
  clear A40
  simp only [Option.some.injEq, Prod.mk.injEq] at H
  obtain ⟨rfl, rfl, rfl, rfl, rfl⟩ := H
  go_enter Tryz.func53, Tryz.ntmps53
  go_wp2_with (first | ((with_reducible refine gate_dst (N := 2) rfl ?_); refine box_event ?hg (N := 2) ?hd (cs := #[.int .i64 0, .int .i64 0, .int .i64 0]) (t := 25) ?hr ?_; (case hd => rfl); (case hg => rfl); (case hr => first | (go_simp; done) | (go_simp; rfl)); intro gb186 hg w5 hbox hb; replace HB := Aside0.mk (below_step (b0 HB.out) hb); have BK186 := Aside0.mk (hbox); have GW186 := Aside0.mk ((by rw [hg]; exact (keep_size (w := w) (g := g) (row := none) (k0 HK.out)) : w.heap.size ≤ gb186)); have GE186 := Aside0.mk ((Nat.le_trans HW0.out (by rw [hg]; exact (keep_size (w := w) (g := g) (row := none) (k0 HK.out)) : w.heap.size ≤ gb186) : w0.heap.size ≤ gb186)); replace HK := Aside0.mk (KeepBut.trans (k0 HK.out) (KeepBut.of_below hb g none) (.inl rfl)); have NB0_186 := Aside0.mk ((by rw [hg]; exact Nat.ne_of_lt (IsS106.lt (show IsS106 hd w0 _ g s0_0 s0_1 s0_2 from i0 HI0.out)) : g ≠ gb186)); have NB186_0 := Aside0.mk ((by rw [hg]; exact Nat.ne_of_gt (IsS106.lt (show IsS106 hd w0 _ g s0_0 s0_1 s0_2 from i0 HI0.out)) : gb186 ≠ g)); replace HI0 := Aside0.mk (IsS106.below (i0 HI0.out) hb); clear hb hbox hg) | ((with_reducible refine gate_callee (f := 118) rfl ?_); refine gl (some 5) rfl rfl Tryz.func118 (by kernel_rfl) rfl #[.pointer (some ⟨g, 0, none⟩), .int .i64 5] rfl ?_; (with_reducible refine (spec_l00Src_pick.calls hd g s0_0 s0_1 s0_2 5 t187 t188 t189 w0 _ ?side1 ?side2 A2.out).mono ?_); (case side1 => exact iq HI0.out (.c NB0_186.out .n)); (case side2 => exact bq HB.out (.c GE186.out .n)); rintro e w6 ⟨rfl, hi, hb, hk⟩; refine ⟨_, rfl, ?_⟩; replace BK186 := Aside0.mk (KeepBut.blk hk (g' := gb186) (o := .cells #[.int .i64 0, .int .i64 0, .int .i64 0] 25 (0, 0)) (h0 BK186.out) NB186_0.out (by simp)); replace HK := Aside0.mk (KeepBut.trans (kq HK.out (.c GW186.out .n)) hk (.inl rfl)); replace HB := Aside0.mk (hb); replace HI0 := Aside0.mk (hi); (try clear hb); (try clear hb2); (try clear hk); (try clear hi)) | ((with_reducible refine gate_callee (f := 119) rfl ?_); refine gl (some 8) rfl rfl Tryz.func119 (by kernel_rfl) rfl #[] rfl ?_; (with_reducible refine (spec_l12Wgs.calls  t190 t191 t192 _ A4.out).mono ?_); rintro e w7 ⟨rfl, hb⟩; refine ⟨_, rfl, ?_⟩; replace HI0 := Aside0.mk (IsS106.below (iq HI0.out (.c NB0_186.out .n)) hb); replace BK186 := Aside0.mk (blk_below (g := gb186) (o := .cells #[.int .i64 0, .int .i64 0, .int .i64 0] 25 (0, 0)) (h0 BK186.out) hb); replace HK := Aside0.mk (KeepBut.trans (kq HK.out (.c GW186.out .n)) (KeepBut.of_below hb g none) (.inl rfl)); replace HB := Aside0.mk (below_step (bq HB.out (.c GE186.out .n)) hb); (try clear hb); (try clear hb2); (try clear hk); (try clear hi); have hnb8 := NB186_0.out; have hnc8 := NB0_186.out; have hcz9_0 : w7.cell? ⟨gb186, 0, none⟩ = some (.int .i64 0) := (blk_cell BK186.out 0).trans rfl; have hcz9_1 : w7.cell? ⟨gb186, 1, none⟩ = some (.int .i64 0) := (blk_cell BK186.out 1).trans rfl; have hcz9_2 : w7.cell? ⟨gb186, 2, none⟩ = some (.int .i64 0) := (blk_cell BK186.out 2).trans rfl; have hfz9_0 := blk_frozen BK186.out 0; have hfz9_1 := blk_frozen BK186.out 1; have hfz9_2 := blk_frozen BK186.out 2))
  refine bodyPost_ret (results_cell_row rfl _ _ gb186 25 #[.int .i64 t190, .int .i64 t191, .int .i64 t192] (0, 0) _ rfl (by refine hp ?_; refine blk_put (cs := #[.int .i64 t190, .int .i64 t191, .int .i64 0]) ?_ 2 _ rfl; refine hp ?_; refine blk_put (cs := #[.int .i64 t190, .int .i64 0, .int .i64 0]) ?_ 1 _ rfl; refine hp ?_; refine blk_put (cs := #[.int .i64 0, .int .i64 0, .int .i64 0]) ?_ 0 _ rfl; exact h0 BK186.out) Tryz.underlying25 rfl (by kernel_rfl)) rfl ?_
  exact ⟨rfl, iq HI0.out (.c NB0_186.out .n), bq HB.out (.c GE186.out .n), kq HK.out (.c GW186.out .n)⟩
 ·rw [if_neg c3] at H
  have c3b0 : (t187 == 0) = false := beq_eq_false_iff_ne.mpr c3
  have c3b1 : (t187 != 0) = true := bne_iff_ne.mpr c3
  by_cases c10 : t187 = 1
  ·rw [if_pos c10] at H
   have c10b0 : (t187 == 1) = true := beq_iff_eq.mpr c10
   have c10b1 : (t187 != 1) = false := bne_eq_false_iff_eq.mpr c10
   clear c10
   obtain ⟨y193, hy193⟩ : ∃ y_ : List Int, y_ = (([6371000000, 1000, 1000000, 100000000000] : List Int)) := ⟨_, rfl⟩
   replace H : ((spec_l00Src_among.f s0_0 t188 t189 y193).bind fun bt196 => (some (bt196.1, 0, 1, bt196.2.1, bt196.2.2))) = some (r1, r2, r3, r4, r5) := by first | (rw [hy193]; with_reducible exact H) | (have H2_ := (Option.bind_some _ _).symm.trans H; rw [hy193]; with_reducible exact H2_) | (have H2_ := (Option.bind_some _ _).symm.trans H; with_reducible exact H2_) | with_reducible exact H | (rw [hy193]; exact H) | exact H
   have Ny193 := Aside0.mk hy193
   clear hy193
   replace H := Option.bind_eq_some_iff.mp H
   obtain ⟨⟨t196, t197, t198⟩, A110, H⟩ := H
   replace H : (some (t196, 0, 1, t197, t198)) = some (r1, r2, r3, r4, r5) := H
   have A11 := Aside0.mk A110
   clear A110
   simp only [Option.some.injEq, Prod.mk.injEq] at H
   obtain ⟨rfl, rfl, rfl, rfl, rfl⟩ := H
   go_enter Tryz.func53, Tryz.ntmps53
   go_wp2_with (first | ((with_reducible refine gate_dst (N := 2) rfl ?_); refine box_event ?hg (N := 2) ?hd (cs := #[.int .i64 0, .int .i64 0, .int .i64 0]) (t := 25) ?hr ?_; (case hd => rfl); (case hg => rfl); (case hr => first | (go_simp; done) | (go_simp; rfl)); intro gb186 hg w12 hbox hb; replace HB := Aside0.mk (below_step (b0 HB.out) hb); have BK186 := Aside0.mk (hbox); have GW186 := Aside0.mk ((by rw [hg]; exact (keep_size (w := w) (g := g) (row := none) (k0 HK.out)) : w.heap.size ≤ gb186)); have GE186 := Aside0.mk ((Nat.le_trans HW0.out (by rw [hg]; exact (keep_size (w := w) (g := g) (row := none) (k0 HK.out)) : w.heap.size ≤ gb186) : w0.heap.size ≤ gb186)); replace HK := Aside0.mk (KeepBut.trans (k0 HK.out) (KeepBut.of_below hb g none) (.inl rfl)); have NB0_186 := Aside0.mk ((by rw [hg]; exact Nat.ne_of_lt (IsS106.lt (show IsS106 hd w0 _ g s0_0 s0_1 s0_2 from i0 HI0.out)) : g ≠ gb186)); have NB186_0 := Aside0.mk ((by rw [hg]; exact Nat.ne_of_gt (IsS106.lt (show IsS106 hd w0 _ g s0_0 s0_1 s0_2 from i0 HI0.out)) : gb186 ≠ g)); replace HI0 := Aside0.mk (IsS106.below (i0 HI0.out) hb); clear hb hbox hg) | ((with_reducible refine gate_callee (f := 118) rfl ?_); refine gl (some 5) rfl rfl Tryz.func118 (by kernel_rfl) rfl #[.pointer (some ⟨g, 0, none⟩), .int .i64 5] rfl ?_; (with_reducible refine (spec_l00Src_pick.calls hd g s0_0 s0_1 s0_2 5 t187 t188 t189 w0 _ ?side1 ?side2 A2.out).mono ?_); (case side1 => exact iq HI0.out (.c NB0_186.out .n)); (case side2 => exact bq HB.out (.c GE186.out .n)); rintro e w13 ⟨rfl, hi, hb, hk⟩; refine ⟨_, rfl, ?_⟩; replace BK186 := Aside0.mk (KeepBut.blk hk (g' := gb186) (o := .cells #[.int .i64 0, .int .i64 0, .int .i64 0] 25 (0, 0)) (h0 BK186.out) NB186_0.out (by simp)); replace HK := Aside0.mk (KeepBut.trans (kq HK.out (.c GW186.out .n)) hk (.inl rfl)); replace HB := Aside0.mk (hb); replace HI0 := Aside0.mk (hi); (try clear hb); (try clear hb2); (try clear hk); (try clear hi)) | ((with_reducible refine gate_dst (N := 12) rfl ?_); refine Kd.R_lit (Kd.int .i64) _ 2 ?hg (N := 12) ?hd (xs := ([6371000000, 1000, 1000000, 100000000000] : List Int)) (inner := [.int .i64 6371000000, .int .i64 1000, .int .i64 1000000, .int .i64 100000000000]) (ok := fun _ => True) (okp := fun _ => True) ?hr ?hp (fun _ hk => hk) trivial (Below.refl _ _) (Nat.le_refl _) (by simp) ?_; (case hd => rfl); (case hg => rfl); (case hr => first | (go_simp; done) | (go_simp; rfl)); (case hp => exact (Reps.one (show Kd.M (Kd.int .i64) _ _ _ 6371000000 [.int .i64 6371000000] from rfl) (Reps.one (show Kd.M (Kd.int .i64) _ _ _ 1000 [.int .i64 1000] from rfl) (Reps.one (show Kd.M (Kd.int .i64) _ _ _ 1000000 [.int .i64 1000000] from rfl) (Reps.one (show Kd.M (Kd.int .i64) _ _ _ 100000000000 [.int .i64 100000000000] from rfl) (Reps.none _ _)))))); intro v194 w14 ho15 hb hg_ hnew_; clear hg_ hnew_; (first | rw [← Ny193.out] at ho15 | (simp only [Int.reduceToNat] at ho15; rw [← Ny193.out] at ho15)); have HO195 := Aside0.mk (Kd.R_lower ho15 (keep_size (w := w) (g := g) (row := none) (kq HK.out (.c GW186.out .n)))); replace HI0 := Aside0.mk (IsS106.below (iq HI0.out (.c NB0_186.out .n)) hb); replace BK186 := Aside0.mk (blk_below (g := gb186) (o := .cells #[.int .i64 0, .int .i64 0, .int .i64 0] 25 (0, 0)) (h0 BK186.out) hb); replace HK := Aside0.mk (KeepBut.trans (kq HK.out (.c GW186.out .n)) (KeepBut.of_below hb g none) (.inl rfl)); replace HB := Aside0.mk (below_step (bq HB.out (.c GE186.out .n)) hb); clear hb ho15; obtain ⟨Ao16, co16, eo16⟩ := Kd.R_slice HO195.out; subst eo16) | ((with_reducible refine gate_callee (f := 120) rfl ?_); refine gl (some 13) rfl rfl Tryz.func120 (by kernel_rfl) rfl #[.pointer (some ⟨g, 0, none⟩), .slice Ao16 y193.length co16] rfl ?_; (with_reducible refine (spec_l00Src_among.calls hd g s0_0 t188 t189 _ _ y193 t196 t197 t198 w0 _ ?side1 ?side2 ?side3 ?side4 ?side5 A11.out).mono ?_); (case side1 => exact iq HI0.out (.c NB0_186.out .n)); (case side2 => exact bq HB.out (.c GE186.out .n)); (case side3 => repeat (first | exact (Kd.R_reads' HO195.out).2.2 | (with_reducible refine Kd.C_alloc ?_ _) | (with_reducible refine Kd.C_drewN ?_ _) | (with_reducible refine Kd.C_drew ?_))); (case side4 => exact (Kd.R_reads' HO195.out).2.1); (case side5 => exact far_slice (IsS106.own_ne HI0.out HO195.out (by decide))); rintro e w17 ⟨rfl, hi, hb, hk⟩; refine ⟨_, rfl, ?_⟩; replace BK186 := Aside0.mk (KeepBut.blk hk (g' := gb186) (o := .cells #[.int .i64 0, .int .i64 0, .int .i64 0] 25 (0, 0)) (h0 BK186.out) NB186_0.out (by simp)); replace HO195 := Aside0.mk (Kd.R_mono (Kd.R_keep (IsS106.apart (show IsS106 hd w0 _ g s0_0 t188 t189 from iq HI0.out (.c NB0_186.out .n)) HO195.out (by decide)) hk (fun _ h => h.2)) (fun _ h => h.1)); replace HK := Aside0.mk (KeepBut.trans (kq HK.out (.c GW186.out .n)) hk (.inl rfl)); replace HB := Aside0.mk (hb); replace HI0 := Aside0.mk (hi); (try clear hb); (try clear hb2); (try clear hk); (try clear hi); have hnb18 := NB186_0.out; have hnc18 := NB0_186.out; have hcz19_0 : w17.cell? ⟨gb186, 0, none⟩ = some (.int .i64 0) := (blk_cell BK186.out 0).trans rfl; have hcz19_1 : w17.cell? ⟨gb186, 1, none⟩ = some (.int .i64 0) := (blk_cell BK186.out 1).trans rfl; have hcz19_2 : w17.cell? ⟨gb186, 2, none⟩ = some (.int .i64 0) := (blk_cell BK186.out 2).trans rfl; have hfz19_0 := blk_frozen BK186.out 0; have hfz19_1 := blk_frozen BK186.out 1; have hfz19_2 := blk_frozen BK186.out 2))
   refine bodyPost_ret (results_cell_row rfl _ _ gb186 25 #[.int .i64 t196, .int .i64 0, .int .i64 1] (0, 0) _ rfl (by refine hp ?_; refine blk_put (cs := #[.int .i64 t196, .int .i64 0, .int .i64 0]) ?_ 2 _ rfl; refine hp ?_; refine blk_put (cs := #[.int .i64 t196, .int .i64 0, .int .i64 0]) ?_ 1 _ rfl; refine hp ?_; refine blk_put (cs := #[.int .i64 0, .int .i64 0, .int .i64 0]) ?_ 0 _ rfl; exact h0 BK186.out) Tryz.underlying25 rfl (by kernel_rfl)) rfl ?_
   exact ⟨rfl, iq HI0.out (.c NB0_186.out .n), bq HB.out (.c GE186.out .n), kq HK.out (.c GW186.out .n)⟩
  ·rw [if_neg c10] at H
   have c10b0 : (t187 == 1) = false := beq_eq_false_iff_ne.mpr c10
   have c10b1 : (t187 != 1) = true := bne_iff_ne.mpr c10
   by_cases c20 : t187 = 2
   ·rw [if_pos c20] at H
    have c20b0 : (t187 == 2) = true := beq_iff_eq.mpr c20
    have c20b1 : (t187 != 2) = false := bne_eq_false_iff_eq.mpr c20
    clear c20
    simp only [Option.some.injEq, Prod.mk.injEq] at H
    obtain ⟨rfl, rfl, rfl, rfl, rfl⟩ := H
    go_enter Tryz.func53, Tryz.ntmps53
    go_wp2_with (first | ((with_reducible refine gate_dst (N := 2) rfl ?_); refine box_event ?hg (N := 2) ?hd (cs := #[.int .i64 0, .int .i64 0, .int .i64 0]) (t := 25) ?hr ?_; (case hd => rfl); (case hg => rfl); (case hr => first | (go_simp; done) | (go_simp; rfl)); intro gb186 hg w21 hbox hb; replace HB := Aside0.mk (below_step (b0 HB.out) hb); have BK186 := Aside0.mk (hbox); have GW186 := Aside0.mk ((by rw [hg]; exact (keep_size (w := w) (g := g) (row := none) (k0 HK.out)) : w.heap.size ≤ gb186)); have GE186 := Aside0.mk ((Nat.le_trans HW0.out (by rw [hg]; exact (keep_size (w := w) (g := g) (row := none) (k0 HK.out)) : w.heap.size ≤ gb186) : w0.heap.size ≤ gb186)); replace HK := Aside0.mk (KeepBut.trans (k0 HK.out) (KeepBut.of_below hb g none) (.inl rfl)); have NB0_186 := Aside0.mk ((by rw [hg]; exact Nat.ne_of_lt (IsS106.lt (show IsS106 hd w0 _ g s0_0 s0_1 s0_2 from i0 HI0.out)) : g ≠ gb186)); have NB186_0 := Aside0.mk ((by rw [hg]; exact Nat.ne_of_gt (IsS106.lt (show IsS106 hd w0 _ g s0_0 s0_1 s0_2 from i0 HI0.out)) : gb186 ≠ g)); replace HI0 := Aside0.mk (IsS106.below (i0 HI0.out) hb); clear hb hbox hg) | ((with_reducible refine gate_callee (f := 118) rfl ?_); refine gl (some 5) rfl rfl Tryz.func118 (by kernel_rfl) rfl #[.pointer (some ⟨g, 0, none⟩), .int .i64 5] rfl ?_; (with_reducible refine (spec_l00Src_pick.calls hd g s0_0 s0_1 s0_2 5 t187 t188 t189 w0 _ ?side1 ?side2 A2.out).mono ?_); (case side1 => exact iq HI0.out (.c NB0_186.out .n)); (case side2 => exact bq HB.out (.c GE186.out .n)); rintro e w22 ⟨rfl, hi, hb, hk⟩; refine ⟨_, rfl, ?_⟩; replace BK186 := Aside0.mk (KeepBut.blk hk (g' := gb186) (o := .cells #[.int .i64 0, .int .i64 0, .int .i64 0] 25 (0, 0)) (h0 BK186.out) NB186_0.out (by simp)); replace HK := Aside0.mk (KeepBut.trans (kq HK.out (.c GW186.out .n)) hk (.inl rfl)); replace HB := Aside0.mk (hb); replace HI0 := Aside0.mk (hi); (try clear hb); (try clear hb2); (try clear hk); (try clear hi); have hnb23 := NB186_0.out; have hnc23 := NB0_186.out; have hcz24_0 : w22.cell? ⟨gb186, 0, none⟩ = some (.int .i64 0) := (blk_cell BK186.out 0).trans rfl; have hcz24_1 : w22.cell? ⟨gb186, 1, none⟩ = some (.int .i64 0) := (blk_cell BK186.out 1).trans rfl; have hcz24_2 : w22.cell? ⟨gb186, 2, none⟩ = some (.int .i64 0) := (blk_cell BK186.out 2).trans rfl; have hfz24_0 := blk_frozen BK186.out 0; have hfz24_1 := blk_frozen BK186.out 1; have hfz24_2 := blk_frozen BK186.out 2))
    refine bodyPost_ret (results_cell_row rfl _ _ gb186 25 #[.int .i64 6377397155, .int .i64 1000000, .int .i64 299152813] (0, 0) _ rfl (by refine hp ?_; refine blk_put (cs := #[.int .i64 6377397155, .int .i64 1000000, .int .i64 0]) ?_ 2 _ rfl; refine hp ?_; refine blk_put (cs := #[.int .i64 6377397155, .int .i64 0, .int .i64 0]) ?_ 1 _ rfl; refine hp ?_; refine blk_put (cs := #[.int .i64 0, .int .i64 0, .int .i64 0]) ?_ 0 _ rfl; exact h0 BK186.out) Tryz.underlying25 rfl (by kernel_rfl)) rfl ?_
    exact ⟨rfl, iq HI0.out (.c NB0_186.out .n), bq HB.out (.c GE186.out .n), kq HK.out (.c GW186.out .n)⟩
   ·rw [if_neg c20] at H
    have c20b0 : (t187 == 2) = false := beq_eq_false_iff_ne.mpr c20
    have c20b1 : (t187 != 2) = true := bne_iff_ne.mpr c20
    replace H := Option.bind_eq_some_iff.mp H
    obtain ⟨⟨t199, t200, t201⟩, A250, H⟩ := H
    replace H : ((spec_l00Src_among.f s0_0 t200 t201 (([100, 150, 200, 300, 1000, 100000] : List Int))).bind fun bt205 => (some (wrap64 (1000 * (wrap64 (1 + t199))), 1, bt205.1, bt205.2.1, bt205.2.2))) = some (r1, r2, r3, r4, r5) := H
    have A25 := Aside0.mk A250
    clear A250
    obtain ⟨y202, hy202⟩ : ∃ y_ : List Int, y_ = (([100, 150, 200, 300, 1000, 100000] : List Int)) := ⟨_, rfl⟩
    replace H : ((spec_l00Src_among.f s0_0 t200 t201 y202).bind fun bt205 => (some (wrap64 (1000 * (wrap64 (1 + t199))), 1, bt205.1, bt205.2.1, bt205.2.2))) = some (r1, r2, r3, r4, r5) := by first | (rw [hy202]; with_reducible exact H) | (have H2_ := (Option.bind_some _ _).symm.trans H; rw [hy202]; with_reducible exact H2_) | (have H2_ := (Option.bind_some _ _).symm.trans H; with_reducible exact H2_) | with_reducible exact H | (rw [hy202]; exact H) | exact H
    have Ny202 := Aside0.mk hy202
    clear hy202
    replace H := Option.bind_eq_some_iff.mp H
    obtain ⟨⟨t205, t206, t207⟩, A260, H⟩ := H
    replace H : (some (wrap64 (1000 * (wrap64 (1 + t199))), 1, t205, t206, t207)) = some (r1, r2, r3, r4, r5) := H
    have A26 := Aside0.mk A260
    clear A260
    simp only [Option.some.injEq, Prod.mk.injEq] at H
    obtain ⟨rfl, rfl, rfl, rfl, rfl⟩ := H
    go_enter Tryz.func53, Tryz.ntmps53
    go_wp2_with (first | ((with_reducible refine gate_dst (N := 2) rfl ?_); refine box_event ?hg (N := 2) ?hd (cs := #[.int .i64 0, .int .i64 0, .int .i64 0]) (t := 25) ?hr ?_; (case hd => rfl); (case hg => rfl); (case hr => first | (go_simp; done) | (go_simp; rfl)); intro gb186 hg w27 hbox hb; replace HB := Aside0.mk (below_step (b0 HB.out) hb); have BK186 := Aside0.mk (hbox); have GW186 := Aside0.mk ((by rw [hg]; exact (keep_size (w := w) (g := g) (row := none) (k0 HK.out)) : w.heap.size ≤ gb186)); have GE186 := Aside0.mk ((Nat.le_trans HW0.out (by rw [hg]; exact (keep_size (w := w) (g := g) (row := none) (k0 HK.out)) : w.heap.size ≤ gb186) : w0.heap.size ≤ gb186)); replace HK := Aside0.mk (KeepBut.trans (k0 HK.out) (KeepBut.of_below hb g none) (.inl rfl)); have NB0_186 := Aside0.mk ((by rw [hg]; exact Nat.ne_of_lt (IsS106.lt (show IsS106 hd w0 _ g s0_0 s0_1 s0_2 from i0 HI0.out)) : g ≠ gb186)); have NB186_0 := Aside0.mk ((by rw [hg]; exact Nat.ne_of_gt (IsS106.lt (show IsS106 hd w0 _ g s0_0 s0_1 s0_2 from i0 HI0.out)) : gb186 ≠ g)); replace HI0 := Aside0.mk (IsS106.below (i0 HI0.out) hb); clear hb hbox hg) | ((with_reducible refine gate_callee (f := 118) rfl ?_); refine gl (some 5) rfl rfl Tryz.func118 (by kernel_rfl) rfl #[.pointer (some ⟨g, 0, none⟩), .int .i64 5] rfl ?_; (with_reducible refine (spec_l00Src_pick.calls hd g s0_0 s0_1 s0_2 5 t187 t188 t189 w0 _ ?side1 ?side2 A2.out).mono ?_); (case side1 => exact iq HI0.out (.c NB0_186.out .n)); (case side2 => exact bq HB.out (.c GE186.out .n)); rintro e w28 ⟨rfl, hi, hb, hk⟩; refine ⟨_, rfl, ?_⟩; replace BK186 := Aside0.mk (KeepBut.blk hk (g' := gb186) (o := .cells #[.int .i64 0, .int .i64 0, .int .i64 0] 25 (0, 0)) (h0 BK186.out) NB186_0.out (by simp)); replace HK := Aside0.mk (KeepBut.trans (kq HK.out (.c GW186.out .n)) hk (.inl rfl)); replace HB := Aside0.mk (hb); replace HI0 := Aside0.mk (hi); (try clear hb); (try clear hb2); (try clear hk); (try clear hi)) | ((with_reducible refine gate_callee (f := 118) rfl ?_); refine gl (some 19) rfl rfl Tryz.func118 (by kernel_rfl) rfl #[.pointer (some ⟨g, 0, none⟩), .int .i64 9000000] rfl ?_; (with_reducible refine (spec_l00Src_pick.calls hd g s0_0 t188 t189 9000000 t199 t200 t201 w0 _ ?side1 ?side2 A25.out).mono ?_); (case side1 => exact iq HI0.out (.c NB0_186.out .n)); (case side2 => exact bq HB.out (.c GE186.out .n)); rintro e w29 ⟨rfl, hi, hb, hk⟩; refine ⟨_, rfl, ?_⟩; replace BK186 := Aside0.mk (KeepBut.blk hk (g' := gb186) (o := .cells #[.int .i64 0, .int .i64 0, .int .i64 0] 25 (0, 0)) (h0 BK186.out) NB186_0.out (by simp)); replace HK := Aside0.mk (KeepBut.trans (kq HK.out (.c GW186.out .n)) hk (.inl rfl)); replace HB := Aside0.mk (hb); replace HI0 := Aside0.mk (hi); (try clear hb); (try clear hb2); (try clear hk); (try clear hi)) | ((with_reducible refine gate_dst (N := 23) rfl ?_); refine Kd.R_lit (Kd.int .i64) _ 2 ?hg (N := 23) ?hd (xs := ([100, 150, 200, 300, 1000, 100000] : List Int)) (inner := [.int .i64 100, .int .i64 150, .int .i64 200, .int .i64 300, .int .i64 1000, .int .i64 100000]) (ok := fun _ => True) (okp := fun _ => True) ?hr ?hp (fun _ hk => hk) trivial (Below.refl _ _) (Nat.le_refl _) (by simp) ?_; (case hd => rfl); (case hg => rfl); (case hr => first | (go_simp; done) | (go_simp; rfl)); (case hp => exact (Reps.one (show Kd.M (Kd.int .i64) _ _ _ 100 [.int .i64 100] from rfl) (Reps.one (show Kd.M (Kd.int .i64) _ _ _ 150 [.int .i64 150] from rfl) (Reps.one (show Kd.M (Kd.int .i64) _ _ _ 200 [.int .i64 200] from rfl) (Reps.one (show Kd.M (Kd.int .i64) _ _ _ 300 [.int .i64 300] from rfl) (Reps.one (show Kd.M (Kd.int .i64) _ _ _ 1000 [.int .i64 1000] from rfl) (Reps.one (show Kd.M (Kd.int .i64) _ _ _ 100000 [.int .i64 100000] from rfl) (Reps.none _ _)))))))); intro v203 w30 ho31 hb hg_ hnew_; clear hg_ hnew_; (first | rw [← Ny202.out] at ho31 | (simp only [Int.reduceToNat] at ho31; rw [← Ny202.out] at ho31)); have HO204 := Aside0.mk (Kd.R_lower ho31 (keep_size (w := w) (g := g) (row := none) (kq HK.out (.c GW186.out .n)))); replace HI0 := Aside0.mk (IsS106.below (iq HI0.out (.c NB0_186.out .n)) hb); replace BK186 := Aside0.mk (blk_below (g := gb186) (o := .cells #[.int .i64 0, .int .i64 0, .int .i64 0] 25 (0, 0)) (h0 BK186.out) hb); replace HK := Aside0.mk (KeepBut.trans (kq HK.out (.c GW186.out .n)) (KeepBut.of_below hb g none) (.inl rfl)); replace HB := Aside0.mk (below_step (bq HB.out (.c GE186.out .n)) hb); clear hb ho31; obtain ⟨Ao32, co32, eo32⟩ := Kd.R_slice HO204.out; subst eo32) | ((with_reducible refine gate_callee (f := 120) rfl ?_); refine gl (some 24) rfl rfl Tryz.func120 (by kernel_rfl) rfl #[.pointer (some ⟨g, 0, none⟩), .slice Ao32 y202.length co32] rfl ?_; (with_reducible refine (spec_l00Src_among.calls hd g s0_0 t200 t201 _ _ y202 t205 t206 t207 w0 _ ?side1 ?side2 ?side3 ?side4 ?side5 A26.out).mono ?_); (case side1 => exact iq HI0.out (.c NB0_186.out .n)); (case side2 => exact bq HB.out (.c GE186.out .n)); (case side3 => repeat (first | exact (Kd.R_reads' HO204.out).2.2 | (with_reducible refine Kd.C_alloc ?_ _) | (with_reducible refine Kd.C_drewN ?_ _) | (with_reducible refine Kd.C_drew ?_))); (case side4 => exact (Kd.R_reads' HO204.out).2.1); (case side5 => exact far_slice (IsS106.own_ne HI0.out HO204.out (by decide))); rintro e w33 ⟨rfl, hi, hb, hk⟩; refine ⟨_, rfl, ?_⟩; replace BK186 := Aside0.mk (KeepBut.blk hk (g' := gb186) (o := .cells #[.int .i64 0, .int .i64 0, .int .i64 0] 25 (0, 0)) (h0 BK186.out) NB186_0.out (by simp)); replace HO204 := Aside0.mk (Kd.R_mono (Kd.R_keep (IsS106.apart (show IsS106 hd w0 _ g s0_0 t200 t201 from iq HI0.out (.c NB0_186.out .n)) HO204.out (by decide)) hk (fun _ h => h.2)) (fun _ h => h.1)); replace HK := Aside0.mk (KeepBut.trans (kq HK.out (.c GW186.out .n)) hk (.inl rfl)); replace HB := Aside0.mk (hb); replace HI0 := Aside0.mk (hi); (try clear hb); (try clear hb2); (try clear hk); (try clear hi)) | ((with_reducible refine gate_dst (N := 3) rfl ?_); refine box_event ?hg (N := 3) ?hd (cs := #[.int .i64 0, .int .i64 0, .int .i64 0]) (t := 25) ?hr ?_; (case hd => rfl); (case hg => rfl); (case hr => first | (go_simp; done) | (go_simp; rfl)); intro gb208 hg w34 hbox hb; replace HO204 := Aside0.mk (Kd.R_below HO204.out hb); replace HB := Aside0.mk (below_step (bq HB.out (.c GE186.out .n)) hb); have BK208 := Aside0.mk (hbox); have GW208 := Aside0.mk ((by rw [hg]; exact (keep_size (w := w) (g := g) (row := none) (kq HK.out (.c GW186.out .n))) : w.heap.size ≤ gb208)); have GE208 := Aside0.mk ((Nat.le_trans HW0.out (by rw [hg]; exact (keep_size (w := w) (g := g) (row := none) (kq HK.out (.c GW186.out .n))) : w.heap.size ≤ gb208) : w0.heap.size ≤ gb208)); replace HK := Aside0.mk (KeepBut.trans (kq HK.out (.c GW186.out .n)) (KeepBut.of_below hb g none) (.inl rfl)); have NB186_208 := Aside0.mk ((by rw [hg]; exact Nat.ne_of_lt (blk_lt (g := gb186) (o := .cells #[.int .i64 0, .int .i64 0, .int .i64 0] 25 (0, 0)) (h0 BK186.out)) : gb186 ≠ gb208)); have NB208_186 := Aside0.mk ((by rw [hg]; exact Nat.ne_of_gt (blk_lt (g := gb186) (o := .cells #[.int .i64 0, .int .i64 0, .int .i64 0] 25 (0, 0)) (h0 BK186.out)) : gb208 ≠ gb186)); replace BK186 := Aside0.mk (blk_below (g := gb186) (o := .cells #[.int .i64 0, .int .i64 0, .int .i64 0] 25 (0, 0)) (h0 BK186.out) hb); have NB0_208 := Aside0.mk ((by rw [hg]; exact Nat.ne_of_lt (IsS106.lt (show IsS106 hd w0 _ g s0_0 t206 t207 from iq HI0.out (.c NB0_186.out .n))) : g ≠ gb208)); have NB208_0 := Aside0.mk ((by rw [hg]; exact Nat.ne_of_gt (IsS106.lt (show IsS106 hd w0 _ g s0_0 t206 t207 from iq HI0.out (.c NB0_186.out .n))) : gb208 ≠ g)); replace HI0 := Aside0.mk (IsS106.below (iq HI0.out (.c NB0_186.out .n)) hb); clear hb hbox hg; have hnb35 := NB208_186.out; have hnc35 := NB186_208.out; have hnb36 := NB208_0.out; have hnc36 := NB0_208.out; have hcz37_0 : w34.cell? ⟨gb208, 0, none⟩ = some (.int .i64 0) := (blk_cell BK208.out 0).trans rfl; have hcz37_1 : w34.cell? ⟨gb208, 1, none⟩ = some (.int .i64 0) := (blk_cell BK208.out 1).trans rfl; have hcz37_2 : w34.cell? ⟨gb208, 2, none⟩ = some (.int .i64 0) := (blk_cell BK208.out 2).trans rfl; have hfz37_0 := blk_frozen BK208.out 0; have hfz37_1 := blk_frozen BK208.out 1; have hfz37_2 := blk_frozen BK208.out 2; have hnb38 := NB186_0.out; have hnc38 := NB0_186.out; have hcz39_0 : w34.cell? ⟨gb186, 0, none⟩ = some (.int .i64 0) := (blk_cell BK186.out 0).trans rfl; have hcz39_1 : w34.cell? ⟨gb186, 1, none⟩ = some (.int .i64 0) := (blk_cell BK186.out 1).trans rfl; have hcz39_2 : w34.cell? ⟨gb186, 2, none⟩ = some (.int .i64 0) := (blk_cell BK186.out 2).trans rfl; have hfz39_0 := blk_frozen BK186.out 0; have hfz39_1 := blk_frozen BK186.out 1; have hfz39_2 := blk_frozen BK186.out 2))
    refine bodyPost_ret (results_cell_row rfl _ _ gb186 25 #[.int .i64 (wrap64 (1000 * (wrap64 (1 + t199)))), .int .i64 1, .int .i64 t205] (0, 0) _ rfl (by refine hp ?_; refine blk_put (cs := #[.int .i64 (wrap64 (1000 * (wrap64 (1 + t199)))), .int .i64 1, .int .i64 0]) ?_ 2 _ rfl; refine hp ?_; refine blk_put (cs := #[.int .i64 (wrap64 (1000 * (wrap64 (1 + t199)))), .int .i64 0, .int .i64 0]) ?_ 1 _ rfl; refine hp ?_; refine blk_put (cs := #[.int .i64 0, .int .i64 0, .int .i64 0]) ?_ 0 _ rfl; exact hq BK186.out (.c NB186_208.out .n)) Tryz.underlying25 rfl (by kernel_rfl)) rfl ?_
    exact ⟨rfl, iq HI0.out (.c NB0_186.out (.c NB0_208.out .n)), bq HB.out (.c GE186.out (.c GE208.out .n)), kq HK.out (.c GW186.out (.c GW208.out .n))⟩
end Go.Proofs.YtogpbandlpjccaaGreatDoor.TX
