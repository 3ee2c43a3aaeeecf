/- The machine walks these functions as the plain functions say; written by a program of this session out of the translation, with contracts of some functions of our own. -/
import Derived.Test.YtogpbandlpjccaaXF1
import Derived.Test.YtogpbandlpjccaaNV
namespace Go.Proofs.Ytogpbandlpjccaa.TX
open Go.RowKit Go.Proofs.YtogpbandlpjccaaW.PrintWords Go.Proofs.YtogpbandlpjccaaW.PrintLast Go.Proofs.YtogpbandlpjccaaW.PrintMore
set_option linter.unusedVariables false
set_option linter.unusedSimpArgs false
def qa1.l0 : Nat → List (S31) → Int → Int → Option (Int)
 | 0, _, _, _ => none
 | k + 1, x0, x7, x8 => if x8 < x7 then (if 0 ≤ x8 then (if x8 < (x0.length : Int) then ((qaO.f ((qaN x0 x8).f0) ((qaN x0 x8).f1)).bind fun t152 => (if t152 = true then (some x8) else (qa1.l0 k x0 x7 (wrap64 (x8 + 1))))) else (none)) else (none)) else (some (-1))
def qa1.f (k : Nat) (l0 : List (S31)) (a1 : Int) : Option (Int) := qa1.l0 k l0 (l0.length : Int) 0
theorem qa1.mono_l : ∀ k, (∀ y0 y1 y2, LeO (qa1.l0 k y0 y1 y2) (qa1.l0 (k + 1) y0 y1 y2))
 | 0 => fun _ _ _ r h => by simp [qa1.l0] at h
 | k + 1 => by
  have ih0 := qa1.mono_l k
  ·intro y0 y1 y2
   unfold qa1.l0
   repeat' first
   | (with_reducible exact ih0 _ _ _)
   | (with_reducible exact LeO.refl _)
   | (with_reducible exact LeO.none _)
   | (with_reducible refine LeO.ite ?_ ?_)
   | (with_reducible refine LeO.bind ?_ (fun _ => ?_))
   | exact ih0 _ _ _
   | exact LeO.none _
   | refine LeO.ite ?_ ?_
   | refine LeO.bind ?_ (fun _ => ?_)
theorem qa1.mono : ∀ a0 a1 k, LeO (qa1.f k a0 a1) (qa1.f (k + 1) a0 a1) := by
 intro a0 a1 k
 have ih0 := qa1.mono_l k
 unfold qa1.f
 repeat' first
   | (with_reducible exact ih0 _ _ _)
   | (with_reducible exact LeO.refl _)
   | (with_reducible exact LeO.none _)
   | (with_reducible refine LeO.ite ?_ ?_)
   | (with_reducible refine LeO.bind ?_ (fun _ => ?_))
   | exact ih0 _ _ _
   | exact LeO.none _
   | refine LeO.ite ?_ ?_
   | refine LeO.bind ?_ (fun _ => ?_)
set_option maxHeartbeats 8000000 in
set_option maxRecDepth 100000 in
theorem qa1.calls (k : Nat) (A0 : Option Addr) (c0 : Nat) (l0 : List (S31)) (a1 : Int) (r : Int) (w : World) (hr0 : Kd.C k31 w A0 l0.length l0) (hc0 : l0.length ≤ c0) (h : qa1.f k l0 a1 = some r) :
  Calls Try.prog 90 #[.slice A0 l0.length c0, .func (.func 36) #[] #[]] w fun e w' => e = .returned (.int .i64 r) ∧ Below w.heap.size w w' := by
 have hu31 := Try.underlying31
 have HR0 := Aside0.mk hr0
 have HC0 := Aside0.mk hc0
 clear hr0 hc0
 have HB := Aside0.mk (Below.refl w.heap.size w)
 have H : (qa1.l0 k l0 (l0.length : Int) 0) = some r := h
 clear h
 have H' := Aside0.mk H
 clear H
 go_enter Try.func90, Try.ntmps90
 go_wp2
 go_loopg [8] k (fun kq v8 w' => ∃ (x8_1 : Int), v8 = .int .i64 x8_1 ∧ Aside0 (qa1.l0 kq l0 (l0.length : Int) x8_1 = some r) ∧ Aside0 (kq ≤ k) ∧ Aside0 (Below w.heap.size w w'))
 case atStart => exact ⟨(0), er, H', ⟨Nat.le_refl _⟩, ⟨b0 HB.out⟩⟩
 case round =>
  clear H'
  try clear p2
  obtain ⟨x8_1, rfl, HA, HK1, HB⟩ := hrel
  cases gk with
  | zero => exact absurd HA.out (by simp [qa1.l0])
  | succ k1 =>
   have H := HA.out
   clear HA
   simp only [qa1.l0] at H
   by_cases c3 : x8_1 < (l0.length : Int)
   ·rw [if_pos c3] at H
    have c3b0 : decide (x8_1 < (l0.length : Int)) = true := decide_eq_true c3
    clear c3
    by_cases c4 : 0 ≤ x8_1
    ·rw [if_pos c4] at H
     have c4b0 : decide (0 ≤ x8_1) = true := decide_eq_true c4
     clear c4
     by_cases c5 : x8_1 < (l0.length : Int)
     ·rw [if_pos c5] at H
      have c5b0 : decide (x8_1 < (l0.length : Int)) = true := decide_eq_true c5
      clear c5
      replace H := Option.bind_eq_some_iff.mp H
      obtain ⟨t152, A60, H⟩ := H
      replace H : (if t152 = true then (some x8_1) else (qa1.l0 k1 l0 (l0.length : Int) (wrap64 (x8_1 + 1)))) = some r := H
      have A6 := Aside0.mk A60
      clear A60
      by_cases c7 : t152 = true
      ·subst c7
       have H1 : (some x8_1) = some r := by rw [if_pos rfl] at H; exact H
       clear H
       have H := H1
       clear H1
       obtain rfl := Option.some.inj H
       have p151 : 0 ≤ (x8_1 : Int) := od
       have q151 : x8_1 < (l0.length : Int) := od
       obtain ⟨ad151, e151, hx151_0, hx151_1⟩ := qe8 HR0.out x8_1 p151 q151
       cases e151
       replace hx151_0 := (HB.out.cell (World.block_lt_of_cell? w _ hx151_0)).trans hx151_0
       replace hx151_1 := (HB.out.cell (World.block_lt_of_cell? w _ hx151_1)).trans hx151_1
       replace p151 := eq_true p151
       replace q151 := eq_true q151
       go_wp2_with (first | ((with_reducible refine gate_calleeV (j := 11) rfl ?_); refine goesLV_ (some 16) rfl rfl Try.func36 (by kernel_rfl) rfl #[.agg #[.int .i64 ((qaN l0 x8_1).f0), .int .i64 ((qaN l0 x8_1).f1)]] rfl (by rfl) (by (try simp only [List.map_toArray, List.map_cons, List.map_nil]); first | done | rfl | (simp only [List.length_drop, List.length_take]; rfl)) ?_; (with_reducible refine (qaO.calls ((qaN l0 x8_1).f0) ((qaN l0 x8_1).f1) true _ A6.out).mono ?_); rintro e w8 ⟨rfl, hb⟩; refine ⟨_, rfl, ?_⟩; replace HB := Aside0.mk (qaC (b0 HB.out) hb); (try clear hb); (try clear hb2); (try clear hk); (try clear hi)))
       go_ret
       exact ⟨by first | rfl | (simp [qbA, qa9] <;> rfl) | (simp [*, qbA, qa9] <;> rfl), b0 HB.out⟩
      ·replace c7 := Bool.eq_false_iff.mpr c7
       subst c7
       have H1 : (qa1.l0 k1 l0 (l0.length : Int) (wrap64 (x8_1 + 1))) = some r := by rw [if_neg (show ¬ (false = true) by decide)] at H; exact H
       clear H
       have H := H1
       clear H1
       have H' := Aside0.mk H
       clear H
       have p151 : 0 ≤ (x8_1 : Int) := od
       have q151 : x8_1 < (l0.length : Int) := od
       obtain ⟨ad151, e151, hx151_0, hx151_1⟩ := qe8 HR0.out x8_1 p151 q151
       cases e151
       replace hx151_0 := (HB.out.cell (World.block_lt_of_cell? w _ hx151_0)).trans hx151_0
       replace hx151_1 := (HB.out.cell (World.block_lt_of_cell? w _ hx151_1)).trans hx151_1
       replace p151 := eq_true p151
       replace q151 := eq_true q151
       go_wp2_with (first | ((with_reducible refine gate_calleeV (j := 11) rfl ?_); refine goesLV_ (some 16) rfl rfl Try.func36 (by kernel_rfl) rfl #[.agg #[.int .i64 ((qaN l0 x8_1).f0), .int .i64 ((qaN l0 x8_1).f1)]] rfl (by rfl) (by (try simp only [List.map_toArray, List.map_cons, List.map_nil]); first | done | rfl | (simp only [List.length_drop, List.length_take]; rfl)) ?_; (with_reducible refine (qaO.calls ((qaN l0 x8_1).f0) ((qaN l0 x8_1).f1) false _ A6.out).mono ?_); rintro e w9 ⟨rfl, hb⟩; refine ⟨_, rfl, ?_⟩; replace HB := Aside0.mk (qaC (b0 HB.out) hb); (try clear hb); (try clear hb2); (try clear hk); (try clear hi)))
       go_roundg k1
       case measure => have := HK1.out; omega
       case rel => exact ⟨(wrap64 (x8_1 + 1)), er, H', ⟨by have := HK1.out; omega⟩, ⟨b0 HB.out⟩⟩
     ·rw [if_neg c5] at H
      exact absurd H (by simp)
    ·rw [if_neg c4] at H
     exact absurd H (by simp)
   ·rw [if_neg c3] at H
    have c3b0 : decide (x8_1 < (l0.length : Int)) = false := decide_eq_false c3
    clear c3
    obtain rfl := Option.some.inj H
    go_wp2
    go_ret
    exact ⟨by first | rfl | (simp [qbA, qa9] <;> rfl) | (simp [*, qbA, qa9] <;> rfl), b0 HB.out⟩
def qcI.f (k : Nat) (l0 : List (S31)) (a1 : Int) : Option (Bool) := (qa1.f k l0 a1).bind fun t153 => (some (decide (t153 ≥ 0)))
theorem qcI.mono : ∀ a0 a1 k, LeO (qcI.f k a0 a1) (qcI.f (k + 1) a0 a1) := by
 intro a0 a1 k
 unfold qcI.f
 repeat' first
   | (with_reducible exact qa1.mono _ _ _)
   | (with_reducible exact LeO.refl _)
   | (with_reducible exact LeO.none _)
   | (with_reducible refine LeO.ite ?_ ?_)
   | (with_reducible refine LeO.bind ?_ (fun _ => ?_))
   | exact qa1.mono _ _ _
   | exact LeO.none _
   | refine LeO.ite ?_ ?_
   | refine LeO.bind ?_ (fun _ => ?_)
set_option maxHeartbeats 8000000 in
set_option maxRecDepth 100000 in
theorem qcI.calls (k : Nat) (A0 : Option Addr) (c0 : Nat) (l0 : List (S31)) (a1 : Int) (r : Bool) (w : World) (hr0 : Kd.C k31 w A0 l0.length l0) (hc0 : l0.length ≤ c0) (h : qcI.f k l0 a1 = some r) :
  Calls Try.prog 72 #[.slice A0 l0.length c0, .func (.func 36) #[] #[]] w fun e w' => e = .returned (.bool r) ∧ Below w.heap.size w w' := by
 have HR0 := Aside0.mk hr0
 have HC0 := Aside0.mk hc0
 clear hr0 hc0
 have HB := Aside0.mk (Below.refl w.heap.size w)
 have H : ((qa1.f k l0 a1).bind fun t153 => (some (decide (t153 ≥ 0)))) = some r := h
 clear h
 replace H := Option.bind_eq_some_iff.mp H
 obtain ⟨t153, A30, H⟩ := H
 replace H : (some (decide (t153 ≥ 0))) = some r := H
 have A3 := Aside0.mk A30
 clear A30
 obtain rfl := Option.some.inj H
 go_enter Try.func72, Try.ntmps72
 go_wp2_with (first | ((with_reducible refine qaV (f := 90) rfl ?_); refine qcL (some 7) rfl rfl Try.func90 (by kernel_rfl) rfl #[.slice A0 l0.length c0, .func (.func 36) #[] #[]] rfl (by (try simp only [List.map_toArray, List.map_cons, List.map_nil]); first | done | rfl | (simp only [List.length_drop, List.length_take]; rfl)) ?_; (with_reducible refine (qa1.calls k _ _ l0 a1 t153 _ ?side1 ?side2 A3.out).mono ?_); (case side1 => repeat (first | exact HR0.out | (with_reducible refine Kd.C_alloc ?_ _) | (with_reducible refine Kd.C_drewN ?_ _) | (with_reducible refine Kd.C_drew ?_))); (case side2 => exact HC0.out); rintro e w4 ⟨rfl, hb⟩; refine ⟨_, rfl, ?_⟩; replace HB := Aside0.mk (qaC (b0 HB.out) hb); (try clear hb); (try clear hb2); (try clear hk); (try clear hi)))
 go_ret
 exact ⟨by first | rfl | (simp [qbA, qa9] <;> rfl) | (simp [*, qbA, qa9] <;> rfl), b0 HB.out⟩
def qdB.f (k : Nat) (l0 : List (S31)) : Option ((List (S31)) × Int) := (qcI.f k l0 0).bind fun t154 => (if t154 = true then (some (([] : List (S31)), 9)) else (some (l0, 0)))
theorem qdB.mono : ∀ a0 k, LeO (qdB.f k a0) (qdB.f (k + 1) a0) := by
 intro a0 k
 unfold qdB.f
 repeat' first
   | (with_reducible exact qcI.mono _ _ _)
   | (with_reducible exact LeO.refl _)
   | (with_reducible exact LeO.none _)
   | (with_reducible refine LeO.ite ?_ ?_)
   | (with_reducible refine LeO.bind ?_ (fun _ => ?_))
   | exact qcI.mono _ _ _
   | exact LeO.none _
   | refine LeO.ite ?_ ?_
   | refine LeO.bind ?_ (fun _ => ?_)
set_option maxHeartbeats 8000000 in
set_option maxRecDepth 100000 in
theorem qdB.calls (k : Nat) (P0_ : Nat → Prop) (u9000_ : Value) (l0 : List (S31)) (r1 : List (S31)) (r2 : Int) (w0 w : World) (hB : Below w0.heap.size w0 w) (ho0 : Kd.R k31 31 w w0.heap.size P0_ u9000_ l0) (h : qdB.f k l0 = some (r1, r2)) :
  Calls Try.prog 66 #[u9000_] w fun e w' => ∃ v0_ : Value, e = .returned (.tuple #[v0_, .int .i64 r2]) ∧ Kd.R k31 31 w' w0.heap.size (fun k_ => (P0_ k_ ∨ w.heap.size ≤ k_)) v0_ r1 ∧ Below w0.heap.size w0 w' ∧ Kept w w' (fun k_ => P0_ k_) := by
 have HO0 := Aside0.mk (show Kd.R k31 31 w w0.heap.size (fun k_ => (P0_ k_ ∨ w.heap.size ≤ k_)) u9000_ l0 from Kd.R_mono ho0 (fun k_ hk => (.inl hk)))
 have HK := Aside0.mk (Kept.refl w (fun k_ => P0_ k_))
 have HW0 := Aside0.mk hB.size
 have HB := Aside0.mk hB
 clear hB
 have H : ((qcI.f k l0 0).bind fun t154 => (if t154 = true then (some (([] : List (S31)), 9)) else (some (l0, 0)))) = some (r1, r2) := h
 clear h
 replace H := Option.bind_eq_some_iff.mp H
 obtain ⟨t154, A20, H⟩ := H
 replace H : (if t154 = true then (some (([] : List (S31)), 9)) else (some (l0, 0))) = some (r1, r2) := H
 have A2 := Aside0.mk A20
 clear A20
 by_cases c3 : t154 = true
 ·subst c3
  have H1 : (some (([] : List (S31)), 9)) = some (r1, r2) := by rw [if_pos rfl] at H; exact H
  clear H
  have H := H1
  clear H1
  simp only [Option.some.injEq, Prod.mk.injEq] at H
  obtain ⟨rfl, rfl⟩ := H
  obtain ⟨Ao4, co4, eo4⟩ := Kd.R_slice HO0.out
  subst eo4
  go_enter Try.func66, Try.ntmps66
  go_wp2_with (first | ((with_reducible refine qaV (f := 72) rfl ?_); refine qcL (some 5) rfl rfl Try.func72 (by kernel_rfl) rfl #[.slice Ao4 l0.length co4, .func (.func 36) #[] #[]] rfl (by (try simp only [List.map_toArray, List.map_cons, List.map_nil]); first | done | rfl | (simp only [List.length_drop, List.length_take]; rfl)) ?_; (with_reducible refine (qcI.calls k _ _ l0 0 true _ ?side1 ?side2 A2.out).mono ?_); (case side1 => repeat (first | exact (Kd.R_reads' HO0.out).2.2 | (with_reducible refine Kd.C_alloc ?_ _) | (with_reducible refine Kd.C_drewN ?_ _) | (with_reducible refine Kd.C_drew ?_))); (case side2 => exact (Kd.R_reads' HO0.out).2.1); rintro e w5 ⟨rfl, hb⟩; refine ⟨_, rfl, ?_⟩; replace HO0 := Aside0.mk (Kd.R_below (rq HO0.out) hb); replace HK := Aside0.mk (Kept.below (S := (fun k_ => P0_ k_)) (by repeat (first | (with_reducible first | exact HK.out | apply Kept.alloc | apply Kept.drewN | apply Kept.drew) | exact HK.out)) hb); replace HB := Aside0.mk (qaC (b0 HB.out) hb); (try clear hb); (try clear hb2); (try clear hk); (try clear hi)))
  go_ret2
  exact ⟨_, by first | rfl | (simp [qbA, qa9] <;> rfl) | (simp [*, qbA, qa9] <;> rfl), Kd.R_nil _ _ _ _ _, b0 HB.out, by repeat (first | (with_reducible first | exact HK.out | apply Kept.alloc | apply Kept.drewN | apply Kept.drew) | exact HK.out)⟩
 ·replace c3 := Bool.eq_false_iff.mpr c3
  subst c3
  have H1 : (some (l0, 0)) = some (r1, r2) := by rw [if_neg (show ¬ (false = true) by decide)] at H; exact H
  clear H
  have H := H1
  clear H1
  simp only [Option.some.injEq, Prod.mk.injEq] at H
  obtain ⟨rfl, rfl⟩ := H
  obtain ⟨Ao6, co6, eo6⟩ := Kd.R_slice HO0.out
  subst eo6
  go_enter Try.func66, Try.ntmps66
  go_wp2_with (first | ((with_reducible refine qaV (f := 72) rfl ?_); refine qcL (some 5) rfl rfl Try.func72 (by kernel_rfl) rfl #[.slice Ao6 l0.length co6, .func (.func 36) #[] #[]] rfl (by (try simp only [List.map_toArray, List.map_cons, List.map_nil]); first | done | rfl | (simp only [List.length_drop, List.length_take]; rfl)) ?_; (with_reducible refine (qcI.calls k _ _ l0 0 false _ ?side1 ?side2 A2.out).mono ?_); (case side1 => repeat (first | exact (Kd.R_reads' HO0.out).2.2 | (with_reducible refine Kd.C_alloc ?_ _) | (with_reducible refine Kd.C_drewN ?_ _) | (with_reducible refine Kd.C_drew ?_))); (case side2 => exact (Kd.R_reads' HO0.out).2.1); rintro e w7 ⟨rfl, hb⟩; refine ⟨_, rfl, ?_⟩; replace HO0 := Aside0.mk (Kd.R_below (rq HO0.out) hb); replace HK := Aside0.mk (Kept.below (S := (fun k_ => P0_ k_)) (by repeat (first | (with_reducible first | exact HK.out | apply Kept.alloc | apply Kept.drewN | apply Kept.drew) | exact HK.out)) hb); replace HB := Aside0.mk (qaC (b0 HB.out) hb); (try clear hb); (try clear hb2); (try clear hk); (try clear hi)))
  go_ret2
  exact ⟨_, by first | rfl | (simp [qbA, qa9] <;> rfl) | (simp [*, qbA, qa9] <;> rfl), by (with_reducible repeat (first | apply Kd.R_alloc | apply Kd.R_drewN | apply Kd.R_drew)); exact HO0.out, b0 HB.out, by repeat (first | (with_reducible first | exact HK.out | apply Kept.alloc | apply Kept.drewN | apply Kept.drew) | exact HK.out)⟩
mutual
def qaL.j0 : Nat → List (S31) → List (S31) → Bool → Option ((List (S31)) × Int)
 | 0, _, _, _ => none
 | k + 1, x0, x1, x11 => if x11 = true then (some (([] : List (S31)), 1)) else (if (wrap64 ((wrap64 ((x0.length : Int) + (x1.length : Int))) - 1)) > 17 then (some (([] : List (S31)), 5)) else (if 0 ≤ (wrap64 ((wrap64 ((x0.length : Int) + (x1.length : Int))) - 1)) then (if (wrap64 ((wrap64 ((x0.length : Int) + (x1.length : Int))) - 1) : Int).toNat ≤ 17592186044416 then (qaL.l0 k x1 (List.replicate (wrap64 ((wrap64 ((x0.length : Int) + (x1.length : Int))) - 1) : Int).toNat z31) x0 (x0.length : Int) 0) else (none)) else (none)))
def qaL.l0 : Nat → List (S31) → List (S31) → List (S31) → Int → Int → Option ((List (S31)) × Int)
 | 0, _, _, _, _, _ => none
 | k + 1, x1, x6, x35, x36, x37 => if x37 < x36 then (if 0 ≤ x37 then (if x37 < (x35.length : Int) then (qaL.l1 k x1 x6 x37 x35 x36 x37 x1 (x1.length : Int) 0 ((qaN x35 x37).f0) ((qaN x35 x37).f1)) else (none)) else (none)) else ((qdB.f k x6).bind fun bt160 => (some (bt160.1, bt160.2)))
def qaL.l1 : Nat → List (S31) → List (S31) → Int → List (S31) → Int → Int → List (S31) → Int → Int → Int → Int → Option ((List (S31)) × Int)
 | 0, _, _, _, _, _, _, _, _, _, _, _ => none
 | k + 1, x1, x6, x7, x35, x36, x37, x42, x43, x44, x166000, x166001 => if x44 < x43 then (if 0 ≤ x44 then (if x44 < (x42.length : Int) then (if 0 ≤ (wrap64 (x7 + x44)) then (if (wrap64 (x7 + x44)) < (x6.length : Int) then ((qbJ.f x166000 x166001 ((qaN x42 x44).f0) ((qaN x42 x44).f1)).bind fun bt169 => ((qbV.f ((qaN x6 (wrap64 (x7 + x44))).f0) ((qaN x6 (wrap64 (x7 + x44))).f1) bt169.1 bt169.2).bind fun bt171 => (qaL.l1 k x1 (x6.set ((wrap64 (x7 + x44)) : Int).toNat (⟨bt171.1, bt171.2⟩ : S31)) x7 x35 x36 x37 x42 x43 (wrap64 (x44 + 1)) x166000 x166001))) else (none)) else (none)) else (none)) else (none)) else (qaL.l0 k x1 x6 x35 x36 (wrap64 (x37 + 1)))
end
def qaL.f (k : Nat) (l0 : List (S31)) (l1 : List (S31)) : Option ((List (S31)) × Int) := (qaQ.f l0).bind fun t155 => (if t155 = true then ((qaQ.f l1).bind fun t156 => (qaL.j0 k l0 l1 (!t156))) else (qaL.j0 k l0 l1 true))
theorem qaL.mono_l : ∀ k, (∀ y0 y1 y2, LeO (qaL.j0 k y0 y1 y2) (qaL.j0 (k + 1) y0 y1 y2)) ∧ (∀ y0 y1 y2 y3 y4, LeO (qaL.l0 k y0 y1 y2 y3 y4) (qaL.l0 (k + 1) y0 y1 y2 y3 y4)) ∧ (∀ y0 y1 y2 y3 y4 y5 y6 y7 y8 y9 y10, LeO (qaL.l1 k y0 y1 y2 y3 y4 y5 y6 y7 y8 y9 y10) (qaL.l1 (k + 1) y0 y1 y2 y3 y4 y5 y6 y7 y8 y9 y10))
 | 0 => ⟨fun _ _ _ r h => by simp [qaL.j0] at h, fun _ _ _ _ _ r h => by simp [qaL.l0] at h, fun _ _ _ _ _ _ _ _ _ _ _ r h => by simp [qaL.l1] at h⟩
 | k + 1 => by
  obtain ⟨ih0, ih1, ih2⟩ := qaL.mono_l k
  refine ⟨?_, ?_, ?_⟩
  ·intro y0 y1 y2
   unfold qaL.j0
   repeat' first
   | (with_reducible exact ih0 _ _ _)
   | (with_reducible exact ih1 _ _ _ _ _)
   | (with_reducible exact ih2 _ _ _ _ _ _ _ _ _ _ _)
   | (with_reducible exact qdB.mono _ _)
   | (with_reducible exact LeO.refl _)
   | (with_reducible exact LeO.none _)
   | (with_reducible refine LeO.ite ?_ ?_)
   | (with_reducible refine LeO.bind ?_ (fun _ => ?_))
   | exact ih0 _ _ _
   | exact ih1 _ _ _ _ _
   | exact ih2 _ _ _ _ _ _ _ _ _ _ _
   | exact qdB.mono _ _
   | exact LeO.none _
   | refine LeO.ite ?_ ?_
   | refine LeO.bind ?_ (fun _ => ?_)
  ·intro y0 y1 y2 y3 y4
   unfold qaL.l0
   repeat' first
   | (with_reducible exact ih0 _ _ _)
   | (with_reducible exact ih1 _ _ _ _ _)
   | (with_reducible exact ih2 _ _ _ _ _ _ _ _ _ _ _)
   | (with_reducible exact qdB.mono _ _)
   | (with_reducible exact LeO.refl _)
   | (with_reducible exact LeO.none _)
   | (with_reducible refine LeO.ite ?_ ?_)
   | (with_reducible refine LeO.bind ?_ (fun _ => ?_))
   | exact ih0 _ _ _
   | exact ih1 _ _ _ _ _
   | exact ih2 _ _ _ _ _ _ _ _ _ _ _
   | exact qdB.mono _ _
   | exact LeO.none _
   | refine LeO.ite ?_ ?_
   | refine LeO.bind ?_ (fun _ => ?_)
  ·intro y0 y1 y2 y3 y4 y5 y6 y7 y8 y9 y10
   unfold qaL.l1
   repeat' first
   | (with_reducible exact ih0 _ _ _)
   | (with_reducible exact ih1 _ _ _ _ _)
   | (with_reducible exact ih2 _ _ _ _ _ _ _ _ _ _ _)
   | (with_reducible exact qdB.mono _ _)
   | (with_reducible exact LeO.refl _)
   | (with_reducible exact LeO.none _)
   | (with_reducible refine LeO.ite ?_ ?_)
   | (with_reducible refine LeO.bind ?_ (fun _ => ?_))
   | exact ih0 _ _ _
   | exact ih1 _ _ _ _ _
   | exact ih2 _ _ _ _ _ _ _ _ _ _ _
   | exact qdB.mono _ _
   | exact LeO.none _
   | refine LeO.ite ?_ ?_
   | refine LeO.bind ?_ (fun _ => ?_)
theorem qaL.mono : ∀ a0 a1 k, LeO (qaL.f k a0 a1) (qaL.f (k + 1) a0 a1) := by
 intro a0 a1 k
 obtain ⟨ih0, ih1, ih2⟩ := qaL.mono_l k
 unfold qaL.f
 repeat' first
   | (with_reducible exact ih0 _ _ _)
   | (with_reducible exact ih1 _ _ _ _ _)
   | (with_reducible exact ih2 _ _ _ _ _ _ _ _ _ _ _)
   | (with_reducible exact qdB.mono _ _)
   | (with_reducible exact LeO.refl _)
   | (with_reducible exact LeO.none _)
   | (with_reducible refine LeO.ite ?_ ?_)
   | (with_reducible refine LeO.bind ?_ (fun _ => ?_))
   | exact ih0 _ _ _
   | exact ih1 _ _ _ _ _
   | exact ih2 _ _ _ _ _ _ _ _ _ _ _
   | exact qdB.mono _ _
   | exact LeO.none _
   | refine LeO.ite ?_ ?_
   | refine LeO.bind ?_ (fun _ => ?_)
def qaL.T12 : Bool × List (List Nat × List Nat) := (true, [([], []), ([], []), ([], []), ([1, 2], [1, 2]), ([], []), ([], []), ([], []), ([5, 6], [5, 6]), ([4, 7], [4, 7]), ([8], [8]), ([], []), ([], []), ([10, 11], [10, 11]), ([9, 12, 12], [9, 12]), ([0, 3, 0, 1, 2, 3, 4, 5, 6, 7, 8, 9, 10, 11, 12, 13], [0, 3]), ([14, 13, 13, 0, 1, 2, 3, 4, 5, 6, 7, 8, 9, 10, 11, 12, 13], [13, 14])])
def qaL.B12 : List Nat := [0, 0, 0, 6, 0, 0, 0, 96, 240, 496, 0, 0, 3072, 8176, 16383, 32767]
theorem qaL.tab12 : rtab .any (opsOf Try.f29 12) = qaL.T12 := by kernel_rfl
theorem qaL.bits12 : qgD qaL.T12.2 qaL.B12 = true := by kernel_rfl
set_option maxHeartbeats 8000000 in
set_option maxRecDepth 100000 in
theorem qaL.calls (k : Nat) (A0 : Option Addr) (c0 : Nat) (l0 : List (S31)) (A1 : Option Addr) (c1 : Nat) (l1 : List (S31)) (r1 : List (S31)) (r2 : Int) (w : World) (hr0 : Kd.C k31 w A0 l0.length l0) (hc0 : l0.length ≤ c0) (hr1 : Kd.C k31 w A1 l1.length l1) (hc1 : l1.length ≤ c1) (h : qaL.f k l0 l1 = some (r1, r2)) :
  Calls Try.prog 29 #[.slice A0 l0.length c0, .slice A1 l1.length c1] w fun e w' => ∃ v0_ : Value, e = .returned (.tuple #[v0_, .int .i64 r2]) ∧ Kd.R k31 31 w' w.heap.size (fun _ => True) v0_ r1 ∧ Below w.heap.size w w' := by
 have hu31 := Try.underlying31
 have HR0 := Aside0.mk hr0
 have HC0 := Aside0.mk hc0
 clear hr0 hc0
 have HR1 := Aside0.mk hr1
 have HC1 := Aside0.mk hc1
 clear hr1 hc1
 have HB := Aside0.mk (Below.refl w.heap.size w)
 have H : ((qaQ.f l0).bind fun t155 => (if t155 = true then ((qaQ.f l1).bind fun t156 => (qaL.j0 k l0 l1 (!t156))) else (qaL.j0 k l0 l1 true))) = some (r1, r2) := h
 clear h
 have HC3 := Aside0.mk H
 clear H
 go_enter Try.func29, Try.ntmps29
 go_upto_region 1 with (fail)
 go_cut [11] (fun v11 wc => ∃ (kq : Nat) (x11_2 : Bool), v11 = .bool x11_2 ∧ Aside0 (qaL.j0 kq l0 l1 x11_2 = some (r1, r2)) ∧ Aside0 (kq ≤ k) ∧ Aside0 (Below w.heap.size w wc))
 case first =>
  have H := HC3.out
  clear HC3
  replace H := Option.bind_eq_some_iff.mp H
  obtain ⟨t155, A40, H⟩ := H
  replace H : (if t155 = true then ((qaQ.f l1).bind fun t156 => (qaL.j0 k l0 l1 (!t156))) else (qaL.j0 k l0 l1 true)) = some (r1, r2) := H
  have A4 := Aside0.mk A40
  clear A40
  by_cases c5 : t155 = true
  ·subst c5
   have H1 : ((qaQ.f l1).bind fun t156 => (qaL.j0 k l0 l1 (!t156))) = some (r1, r2) := by rw [if_pos rfl] at H; exact H
   clear H
   have H := H1
   clear H1
   replace H := Option.bind_eq_some_iff.mp H
   obtain ⟨t156, A60, H⟩ := H
   replace H : (qaL.j0 k l0 l1 (!t156)) = some (r1, r2) := H
   have A6 := Aside0.mk A60
   clear A60
   have H' := Aside0.mk H
   clear H
   go_wp2_with (first | ((with_reducible refine qaV (f := 35) rfl ?_); refine qcL (some 13) rfl rfl Try.func35 (by kernel_rfl) rfl #[.slice A0 l0.length c0] rfl (by (try simp only [List.map_toArray, List.map_cons, List.map_nil]); first | done | rfl | (simp only [List.length_drop, List.length_take]; rfl)) ?_; (with_reducible refine (qaQ.calls _ _ l0 true _ ?side1 ?side2 A4.out).mono ?_); (case side1 => repeat (first | exact (Kd.C_below HR0.out HB.out) | (with_reducible refine Kd.C_alloc ?_ _) | (with_reducible refine Kd.C_drewN ?_ _) | (with_reducible refine Kd.C_drew ?_))); (case side2 => exact HC0.out); rintro e w7 ⟨rfl, hb⟩; refine ⟨_, rfl, ?_⟩; replace HB := Aside0.mk (qaC (b0 HB.out) hb); (try clear hb); (try clear hb2); (try clear hk); (try clear hi)) | (go_at_call 35; (with_reducible refine (qaQ.calls _ _ l1 t156 _ ?side1 ?side2 A6.out).mono ?_); (case side1 => repeat (first | exact (Kd.C_below HR1.out HB.out) | (with_reducible refine Kd.C_alloc ?_ _) | (with_reducible refine Kd.C_drewN ?_ _) | (with_reducible refine Kd.C_drew ?_))); (case side2 => exact HC1.out); rintro e w8 ⟨rfl, hb⟩; replace HB := Aside0.mk (qaC (b0 HB.out) hb); (try clear hb); (try clear hb2); (try clear hk); (try clear hi)))
   go_meet
   case rel => exact ⟨_, (!t156), er, H', ⟨by first | omega | exact Nat.le_refl _⟩, ⟨b0 HB.out⟩⟩
  ·replace c5 := Bool.eq_false_iff.mpr c5
   subst c5
   have H1 : (qaL.j0 k l0 l1 true) = some (r1, r2) := by rw [if_neg (show ¬ (false = true) by decide)] at H; exact H
   clear H
   have H := H1
   clear H1
   have H' := Aside0.mk H
   clear H
   go_wp2_with (first | ((with_reducible refine qaV (f := 35) rfl ?_); refine qcL (some 13) rfl rfl Try.func35 (by kernel_rfl) rfl #[.slice A0 l0.length c0] rfl (by (try simp only [List.map_toArray, List.map_cons, List.map_nil]); first | done | rfl | (simp only [List.length_drop, List.length_take]; rfl)) ?_; (with_reducible refine (qaQ.calls _ _ l0 false _ ?side1 ?side2 A4.out).mono ?_); (case side1 => repeat (first | exact (Kd.C_below HR0.out HB.out) | (with_reducible refine Kd.C_alloc ?_ _) | (with_reducible refine Kd.C_drewN ?_ _) | (with_reducible refine Kd.C_drew ?_))); (case side2 => exact HC0.out); rintro e w9 ⟨rfl, hb⟩; refine ⟨_, rfl, ?_⟩; replace HB := Aside0.mk (qaC (b0 HB.out) hb); (try clear hb); (try clear hb2); (try clear hk); (try clear hi)))
   go_meet
   case rel => exact ⟨_, (true), er, H', ⟨by first | omega | exact Nat.le_refl _⟩, ⟨b0 HB.out⟩⟩
 case rest =>
  clear HC3
  try clear c1
  try clear c2
  try clear p2
  try clear c3
  try clear c5
  obtain ⟨kq, x11_2, rfl, HA, HJ2, HB⟩ := hcut
  cases kq with
  | zero => exact absurd HA.out (by simp [qaL.j0])
  | succ kj2 =>
   have H := HA.out
   clear HA
   simp only [qaL.j0] at H
   by_cases c10 : x11_2 = true
   ·subst c10
    have H1 : (some (([] : List (S31)), 1)) = some (r1, r2) := by rw [if_pos rfl] at H; exact H
    clear H
    have H := H1
    clear H1
    simp only [Option.some.injEq, Prod.mk.injEq] at H
    obtain ⟨rfl, rfl⟩ := H
    go_wp2
    go_ret2
    exact ⟨_, by first | rfl | (simp [qbA, qa9] <;> rfl) | (simp [*, qbA, qa9] <;> rfl), Kd.R_nil _ _ _ _ _, b0 HB.out⟩
   ·replace c10 := Bool.eq_false_iff.mpr c10
    subst c10
    have H1 : (if (wrap64 ((wrap64 ((l0.length : Int) + (l1.length : Int))) - 1)) > 17 then (some (([] : List (S31)), 5)) else (if 0 ≤ (wrap64 ((wrap64 ((l0.length : Int) + (l1.length : Int))) - 1)) then (if (wrap64 ((wrap64 ((l0.length : Int) + (l1.length : Int))) - 1) : Int).toNat ≤ 17592186044416 then (qaL.l0 kj2 l1 (List.replicate (wrap64 ((wrap64 ((l0.length : Int) + (l1.length : Int))) - 1) : Int).toNat z31) l0 (l0.length : Int) 0) else (none)) else (none))) = some (r1, r2) := by rw [if_neg (show ¬ (false = true) by decide)] at H; exact H
    clear H
    have H := H1
    clear H1
    by_cases c11 : (wrap64 ((wrap64 ((l0.length : Int) + (l1.length : Int))) - 1)) > 17
    ·rw [if_pos c11] at H
     have c11b0 : decide (17 < (wrap64 ((wrap64 ((l0.length : Int) + (l1.length : Int))) - 1))) = true := decide_eq_true c11
     clear c11
     simp only [Option.some.injEq, Prod.mk.injEq] at H
     obtain ⟨rfl, rfl⟩ := H
     go_wp2
     go_ret2
     exact ⟨_, by first | rfl | (simp [qbA, qa9] <;> rfl) | (simp [*, qbA, qa9] <;> rfl), Kd.R_nil _ _ _ _ _, b0 HB.out⟩
    ·rw [if_neg c11] at H
     have c11b0 : decide (17 < (wrap64 ((wrap64 ((l0.length : Int) + (l1.length : Int))) - 1))) = false := decide_eq_false c11
     clear c11
     obtain ⟨ji12, hji12⟩ : ∃ j_ : Int, (wrap64 ((wrap64 ((l0.length : Int) + (l1.length : Int))) - 1)) = j_ := ⟨_, rfl⟩
     replace H : (if 0 ≤ (ji12) then (if (ji12 : Int).toNat ≤ 17592186044416 then (qaL.l0 kj2 l1 (List.replicate (ji12 : Int).toNat z31) l0 (l0.length : Int) 0) else (none)) else (none)) = some (r1, r2) := by first | (rw [hji12] at H; exact H) | (simp only [hji12] at H ⊢; exact H)
     (try rw [hji12] at c11b0)
     have hji12w : (IntKind.i64.wrap ((wrap64 ((l0.length : Int) + (l1.length : Int))) - 1)) = ji12 := (i64_w _).trans hji12
     by_cases c13 : 0 ≤ (ji12)
     ·rw [if_pos c13] at H
      have c13b0 := eq_true c13
      have c13b1 : decide (0 ≤ (ji12)) = true := decide_eq_true c13
      clear c13
      by_cases c14 : (ji12 : Int).toNat ≤ 17592186044416
      ·rw [if_pos c14] at H
       have c14b0 := eq_true c14
       have c14b1 : decide ((ji12 : Int).toNat ≤ 17592186044416) = true := decide_eq_true c14
       clear c14
       obtain ⟨y157, hy157⟩ : ∃ y_ : List (S31), y_ = (List.replicate (ji12 : Int).toNat z31) := ⟨_, rfl⟩
       replace H : (qaL.l0 kj2 l1 y157 l0 (l0.length : Int) 0) = some (r1, r2) := by first | (rw [hy157]; with_reducible exact H) | (have H2_ := (Option.bind_some _ _).symm.trans H; rw [hy157]; with_reducible exact H2_) | (have H2_ := (Option.bind_some _ _).symm.trans H; with_reducible exact H2_) | with_reducible exact H | (rw [hy157]; exact H) | exact H
       have Ny157 := Aside0.mk hy157
       clear hy157
       have H' := Aside0.mk H
       clear H
       go_wp2_with (first | ((with_reducible refine qcR (N := 34) rfl ?_); refine Kd.R_make k31 _ 31 rfl (N := 34) rfl 26 _ _ rfl ji12 rfl rfl Try.underlying26 (.agg #[(.int .i64 0), (.int .i64 0)]) 16 info31 rfl (by decide) (by omega) z31 (ok := fun _ => True) (okp := fun _ => True) (qg7 _ _ _ z31 ) (fun _ hk => hk) trivial (od) (Nat.le_trans (Nat.mul_le_mul_right _ (od : ji12.toNat ≤ 17592186044416)) (by omega)) (Below.refl _ _) (Nat.le_refl _) ?_; intro v158 w15 ho16 hb hg_ hnew_; clear hg_ hnew_; (first | rw [← Ny157.out] at ho16 | (simp only [Int.reduceToNat] at ho16; rw [← Ny157.out] at ho16)); have HO159 := Aside0.mk (Kd.R_lower ho16 (qbP (b0 HB.out))); replace HB := Aside0.mk (qaC (b0 HB.out) hb); clear hb ho16))
       go_loopg [37] kj2 (fun kq v37 w' => ∃ (x6_2 : List (S31)) (x37_2 : Int), v37 = .int .i64 x37_2 ∧ Aside0 (qaL.l0 kq l1 x6_2 l0 (l0.length : Int) x37_2 = some (r1, r2)) ∧ Aside0 (kq ≤ kj2) ∧ Aside0 (Kd.R k31 31 w' w.heap.size (fun _ => True) v158 x6_2) ∧ Aside0 (Below w.heap.size w w'))
       case atStart => exact ⟨(y157), (0), er, H', ⟨Nat.le_refl _⟩, ⟨rq HO159.out⟩, ⟨b0 HB.out⟩⟩
       case round =>
        clear H'
        try clear c1
        try clear c2
        try clear p2
        try clear c3
        try clear c5
        try clear p6
        try clear c10
        try clear c11
        try clear c11b0
        try clear c13
        try clear c13b0
        try clear c13b1
        try clear c14
        try clear c14b0
        try clear c14b1
        try clear p2
        obtain ⟨x6_2, x37_2, rfl, HA, HK2, HO_6, HB⟩ := hrel
        cases gk with
        | zero => exact absurd HA.out (by simp [qaL.l0])
        | succ k2 =>
         have H := HA.out
         clear HA
         simp only [qaL.l0] at H
         by_cases c17 : x37_2 < (l0.length : Int)
         ·rw [if_pos c17] at H
          have c17b0 : decide (x37_2 < (l0.length : Int)) = true := decide_eq_true c17
          clear c17
          by_cases c18 : 0 ≤ x37_2
          ·rw [if_pos c18] at H
           have c18b0 : decide (0 ≤ x37_2) = true := decide_eq_true c18
           clear c18
           by_cases c19 : x37_2 < (l0.length : Int)
           ·rw [if_pos c19] at H
            have c19b0 : decide (x37_2 < (l0.length : Int)) = true := decide_eq_true c19
            clear c19
            have H' := Aside0.mk H
            clear H
            have p164 : 0 ≤ (x37_2 : Int) := od
            have q164 : x37_2 < (l0.length : Int) := od
            obtain ⟨ad164, e164, hx164_0, hx164_1⟩ := qe8 HR0.out x37_2 p164 q164
            cases e164
            replace hx164_0 := (HB.out.cell (World.block_lt_of_cell? w _ hx164_0)).trans hx164_0
            replace hx164_1 := (HB.out.cell (World.block_lt_of_cell? w _ hx164_1)).trans hx164_1
            replace p164 := eq_true p164
            replace q164 := eq_true q164
            go_wp2_with (first | ((with_reducible refine qcR (N := 8) rfl ?_); refine qcY ?hg (N := 8) ?hd (cs := #[.int .i64 0, .int .i64 0]) (t := 31) ?hr ?_; (case hd => rfl); (case hg => rfl); (case hr => first | (go_simp; done) | (go_simp; rfl)); intro gb165 hg w20 hbox hb; replace HO_6 := Aside0.mk (Kd.R_below (Kd.R_elderB (rq HO_6.out) gb165 (Nat.le_of_eq hg.symm)) hb); have BK165 := Aside0.mk (hbox); have GW165 := Aside0.mk ((by rw [hg]; exact (qbP (b0 HB.out)) : w.heap.size ≤ gb165)); have GE165 := Aside0.mk ((by rw [hg]; exact (qbP (b0 HB.out)) : w.heap.size ≤ gb165)); replace HB := Aside0.mk (qaC (b0 HB.out) hb); clear hb hbox hg; have hcz21_0 : w20.cell? ⟨gb165, 0, none⟩ = some (.int .i64 0) := (qaD BK165.out 0).trans rfl; have hcz21_1 : w20.cell? ⟨gb165, 1, none⟩ = some (.int .i64 0) := (qaD BK165.out 1).trans rfl; have hfz21_0 := qbZ BK165.out 0; have hfz21_1 := qbZ BK165.out 1))
            go_loopg [44] k2 (fun kq v44 w' => ∃ (x6_3 : List (S31)) (x44_3 : Int) (x166000_3 : Int) (x166001_3 : Int), v44 = .int .i64 x44_3 ∧ Aside0 (qaL.l1 kq l1 x6_3 x37_2 l0 (l0.length : Int) x37_2 l1 (l1.length : Int) x44_3 x166000_3 x166001_3 = some (r1, r2)) ∧ Aside0 (kq ≤ k2) ∧ Aside0 (Kd.R k31 31 w' w.heap.size (fun k_ => k_ ≠ gb165) v158 x6_3) ∧ Aside0 (w'.heap[gb165]? = some (.cells #[.int .i64 x166000_3, .int .i64 x166001_3] 31 (0, 0))) ∧ Aside0 (Below w.heap.size w w'))
            case atStart => exact ⟨(x6_2), (0), ((qaN l0 x37_2).f0), ((qaN l0 x37_2).f1), er, H', ⟨Nat.le_refl _⟩, ⟨by (with_reducible repeat (first | apply Kd.R_alloc | apply Kd.R_drewN | apply Kd.R_drew)); exact Kd.R_mono (Kd.R_far (p := ⟨gb165, 1, none⟩) (Kd.R_far (p := ⟨gb165, 0, none⟩) (Kd.R_mono HO_6.out (fun k_ hk => (⟨hk, hk.2⟩ : _ ∧ k_ ≠ gb165))) (fun _ hk => hk.2) (.int .i64 ((qaN l0 x37_2).f0))) (fun _ hk => hk.2) (.int .i64 ((qaN l0 x37_2).f1))) (fun _ hk => hk.1.2)⟩, ⟨by refine hp ?_; refine qdO (cs := #[.int .i64 ((qaN l0 x37_2).f0), .int .i64 0]) ?_ 1 _ rfl; refine hp ?_; refine qdO (cs := #[.int .i64 0, .int .i64 0]) ?_ 0 _ rfl; exact h0 BK165.out⟩, ⟨bq HB.out (.c GE165.out .n)⟩⟩
            case round =>
             clear H'
             try clear c1
             try clear p1
             try clear q1
             try clear hx1
             try clear c2
             try clear p2
             try clear c3
             try clear c5
             try clear p6
             try clear c10
             try clear c11
             try clear c11b0
             try clear c13
             try clear c13b0
             try clear c13b1
             try clear c14
             try clear c14b0
             try clear c14b1
             try clear p16
             try clear q16
             try clear hx16
             try clear c17
             try clear c17b0
             try clear c18
             try clear c18b0
             try clear c19
             try clear c19b0
             try clear hcz21_0
             try clear hcz21_1
             try clear hfz21_0
             try clear hfz21_1
             try clear hx164_0
             try clear hx164_1
             try clear p164
             try clear p2
             try clear p6
             try clear q164
             obtain ⟨x6_3, x44_3, x166000_3, x166001_3, rfl, HA, HK3, HO_6, BK165, HB⟩ := hrel
             cases gk with
             | zero => exact absurd HA.out (by simp [qaL.l1])
             | succ k3 =>
              have H := HA.out
              clear HA
              simp only [qaL.l1] at H
              by_cases c22 : x44_3 < (l1.length : Int)
              ·rw [if_pos c22] at H
               have c22b0 : decide (x44_3 < (l1.length : Int)) = true := decide_eq_true c22
               clear c22
               by_cases c23 : 0 ≤ x44_3
               ·rw [if_pos c23] at H
                have c23b0 : decide (0 ≤ x44_3) = true := decide_eq_true c23
                clear c23
                by_cases c24 : x44_3 < (l1.length : Int)
                ·rw [if_pos c24] at H
                 have c24b0 : decide (x44_3 < (l1.length : Int)) = true := decide_eq_true c24
                 clear c24
                 obtain ⟨ji25, hji25⟩ : ∃ j_ : Int, (wrap64 (x37_2 + x44_3)) = j_ := ⟨_, rfl⟩
                 replace H : (if 0 ≤ (ji25) then (if (ji25) < (x6_3.length : Int) then ((qbJ.f x166000_3 x166001_3 ((qaN l1 x44_3).f0) ((qaN l1 x44_3).f1)).bind fun bt169 => ((qbV.f ((qaN x6_3 (ji25)).f0) ((qaN x6_3 (ji25)).f1) bt169.1 bt169.2).bind fun bt171 => (qaL.l1 k3 l1 (x6_3.set ((ji25) : Int).toNat (⟨bt171.1, bt171.2⟩ : S31)) x37_2 l0 (l0.length : Int) x37_2 l1 (l1.length : Int) (wrap64 (x44_3 + 1)) x166000_3 x166001_3))) else (none)) else (none)) = some (r1, r2) := by first | (rw [hji25] at H; exact H) | (simp only [hji25] at H ⊢; exact H)
                 have hji25w : (IntKind.i64.wrap (x37_2 + x44_3)) = ji25 := (i64_w _).trans hji25
                 by_cases c26 : 0 ≤ (ji25)
                 ·rw [if_pos c26] at H
                  have c26b0 : decide (0 ≤ (ji25)) = true := decide_eq_true c26
                  clear c26
                  by_cases c27 : (ji25) < (x6_3.length : Int)
                  ·rw [if_pos c27] at H
                   have c27b0 : decide ((ji25) < (x6_3.length : Int)) = true := decide_eq_true c27
                   clear c27
                   replace H := Option.bind_eq_some_iff.mp H
                   obtain ⟨⟨t169, t170⟩, A280, H⟩ := H
                   replace H : ((qbV.f ((qaN x6_3 (ji25)).f0) ((qaN x6_3 (ji25)).f1) t169 t170).bind fun bt171 => (qaL.l1 k3 l1 (x6_3.set ((ji25) : Int).toNat (⟨bt171.1, bt171.2⟩ : S31)) x37_2 l0 (l0.length : Int) x37_2 l1 (l1.length : Int) (wrap64 (x44_3 + 1)) x166000_3 x166001_3)) = some (r1, r2) := H
                   have A28 := Aside0.mk A280
                   clear A280
                   replace H := Option.bind_eq_some_iff.mp H
                   obtain ⟨⟨t171, t172⟩, A290, H⟩ := H
                   replace H : (qaL.l1 k3 l1 (x6_3.set ((ji25) : Int).toNat (⟨t171, t172⟩ : S31)) x37_2 l0 (l0.length : Int) x37_2 l1 (l1.length : Int) (wrap64 (x44_3 + 1)) x166000_3 x166001_3) = some (r1, r2) := H
                   have A29 := Aside0.mk A290
                   clear A290
                   obtain ⟨y173, hy173⟩ : ∃ y_ : List (S31), y_ = (x6_3.set ((ji25) : Int).toNat (⟨t171, t172⟩ : S31)) := ⟨_, rfl⟩
                   replace H : (qaL.l1 k3 l1 y173 x37_2 l0 (l0.length : Int) x37_2 l1 (l1.length : Int) (wrap64 (x44_3 + 1)) x166000_3 x166001_3) = some (r1, r2) := by first | (rw [hy173]; with_reducible exact H) | (have H2_ := (Option.bind_some _ _).symm.trans H; rw [hy173]; with_reducible exact H2_) | (have H2_ := (Option.bind_some _ _).symm.trans H; with_reducible exact H2_) | with_reducible exact H | (rw [hy173]; exact H) | exact H
                   have Ny173 := Aside0.mk hy173
                   clear hy173
                   have H' := Aside0.mk H
                   clear H
                   have p166 : 0 ≤ (x44_3 : Int) := od
                   have q166 : x44_3 < (l1.length : Int) := od
                   obtain ⟨ad166, e166, hx166_0, hx166_1⟩ := qe8 HR1.out x44_3 p166 q166
                   cases e166
                   replace hx166_0 := (HB.out.cell (World.block_lt_of_cell? w _ hx166_0)).trans hx166_0
                   replace hx166_1 := (HB.out.cell (World.block_lt_of_cell? w _ hx166_1)).trans hx166_1
                   replace p166 := eq_true p166
                   replace q166 := eq_true q166
                   try go_wp2_with (first | ((with_reducible refine qcR (N := 10) rfl ?_); refine qcY ?hg (N := 10) ?hd (cs := #[.int .i64 0, .int .i64 0]) (t := 31) ?hr ?_; (case hd => rfl); (case hg => rfl); (case hr => first | (go_simp; done) | (go_simp; rfl)); intro gb167 hg w31 hbox hb; replace HO_6 := Aside0.mk (Kd.R_below (Kd.R_elderB (rq HO_6.out) gb167 (Nat.le_of_eq hg.symm)) hb); have BK167 := Aside0.mk (hbox); have GW167 := Aside0.mk ((by rw [hg]; exact (qbP (bq HB.out (.c GE165.out .n))) : w.heap.size ≤ gb167)); have GE167 := Aside0.mk ((by rw [hg]; exact (qbP (bq HB.out (.c GE165.out .n))) : w.heap.size ≤ gb167)); replace HB := Aside0.mk (qaC (bq HB.out (.c GE165.out .n)) hb); have NB165_167 := Aside0.mk ((by rw [hg]; exact Nat.ne_of_lt (qeQ (g := gb165) (o := .cells #[.int .i64 x166000_3, .int .i64 x166001_3] 31 (0, 0)) (h0 BK165.out)) : gb165 ≠ gb167)); have NB167_165 := Aside0.mk ((by rw [hg]; exact Nat.ne_of_gt (qeQ (g := gb165) (o := .cells #[.int .i64 x166000_3, .int .i64 x166001_3] 31 (0, 0)) (h0 BK165.out)) : gb167 ≠ gb165)); replace BK165 := Aside0.mk (qaM (h0 BK165.out) hb); clear hb hbox hg; have hnb32 := NB167_165.out; have hnc32 := NB165_167.out; have hcz33_0 : w31.cell? ⟨gb167, 0, none⟩ = some (.int .i64 0) := (qaD BK167.out 0).trans rfl; have hcz33_1 : w31.cell? ⟨gb167, 1, none⟩ = some (.int .i64 0) := (qaD BK167.out 1).trans rfl; have hfz33_0 := qbZ BK167.out 0; have hfz33_1 := qbZ BK167.out 1))
                   have n0_ : Aside0 (Kd.R k31 31 ((w31.setCell ⟨gb167, 0, none⟩ (.int .i64 ((qaN l1 x44_3).f0))).setCell ⟨gb167, 1, none⟩ (.int .i64 ((qaN l1 x44_3).f1))) w.heap.size (fun k_ => k_ ≠ gb165 ∧ k_ ≠ gb167) v158 x6_3) := ⟨by (with_reducible repeat (first | apply Kd.R_alloc | apply Kd.R_drewN | apply Kd.R_drew)); exact Kd.R_mono (Kd.R_far (p := ⟨gb167, 1, none⟩) (Kd.R_far (p := ⟨gb167, 0, none⟩) (Kd.R_mono HO_6.out (fun k_ hk => (⟨hk, hk.2⟩ : _ ∧ k_ ≠ gb167))) (fun _ hk => hk.2) (.int .i64 ((qaN l1 x44_3).f0))) (fun _ hk => hk.2) (.int .i64 ((qaN l1 x44_3).f1))) (fun _ hk => ⟨hk.1.1, hk.1.2⟩)⟩
                   have n1_ : Aside0 (((w31.setCell ⟨gb167, 0, none⟩ (.int .i64 ((qaN l1 x44_3).f0))).setCell ⟨gb167, 1, none⟩ (.int .i64 ((qaN l1 x44_3).f1))).heap[gb165]? = some (.cells #[.int .i64 x166000_3, .int .i64 x166001_3] 31 (0, 0))) := ⟨hq BK165.out (.c NB165_167.out .n)⟩
                   have n2_ : Aside0 (((w31.setCell ⟨gb167, 0, none⟩ (.int .i64 ((qaN l1 x44_3).f0))).setCell ⟨gb167, 1, none⟩ (.int .i64 ((qaN l1 x44_3).f1))).heap[gb167]? = some (.cells #[.int .i64 ((qaN l1 x44_3).f0), .int .i64 ((qaN l1 x44_3).f1)] 31 (0, 0))) := ⟨by refine hp ?_; refine qdO (cs := #[.int .i64 ((qaN l1 x44_3).f0), .int .i64 0]) ?_ 1 _ rfl; refine hp ?_; refine qdO (cs := #[.int .i64 0, .int .i64 0]) ?_ 0 _ rfl; exact h0 BK167.out⟩
                   have n3_ : Aside0 (Below w.heap.size w ((w31.setCell ⟨gb167, 0, none⟩ (.int .i64 ((qaN l1 x44_3).f0))).setCell ⟨gb167, 1, none⟩ (.int .i64 ((qaN l1 x44_3).f1)))) := ⟨bq HB.out (.c GE165.out (.c GE167.out .n))⟩
                   (try clear HO_6)
                   (try clear BK165)
                   (try clear BK167)
                   (try clear HB)
                   generalize ((w31.setCell ⟨gb167, 0, none⟩ (.int .i64 ((qaN l1 x44_3).f0))).setCell ⟨gb167, 1, none⟩ (.int .i64 ((qaN l1 x44_3).f1))) = w34 at n0_ n1_ n2_ n3_ ⊢
                   have HO_6 := n0_
                   have BK165 := n1_
                   have BK167 := n2_
                   have HB := n3_
                   clear n0_ n1_ n2_ n3_
                   replace HO_6 := Aside0.mk (Kd.R_drew HO_6.out)
                   replace BK165 := Aside0.mk (qbQ BK165.out)
                   replace BK167 := Aside0.mk (qbQ BK167.out)
                   replace HB := Aside0.mk (qbH HB.out)
                   obtain ⟨Ao36, co36, eo36⟩ := Kd.R_slice HO_6.out
                   (first | subst eo36 | (injection eo36 with f1_ f2_ f3_; have f4_ := f1_.symm; have f5_ := f3_.symm; clear f1_ f2_ f3_; subst f4_; subst f5_))
                   have p168 : 0 ≤ ((ji25) : Int) := od
                   have q168 : (ji25) < (x6_3.length : Int) := od
                   obtain ⟨ad168, e168, hx168_0, hx168_1⟩ := qe8 (Kd.R_reads' HO_6.out).2.2 (ji25) p168 q168
                   cases e168
                   replace p168 := eq_true p168
                   replace q168 := eq_true q168
                   refine qd3 (n := 16) (S := fun w' => w'.cell? ⟨gb165, 0, none⟩ = some (.int .i64 x166000_3) ∧ w'.cell? ⟨gb165, 1, none⟩ = some (.int .i64 x166001_3) ∧ w'.cell? ⟨gb167, 0, none⟩ = some (.int .i64 ((qaN l1 x44_3).f0)) ∧ w'.cell? ⟨gb167, 1, none⟩ = some (.int .i64 ((qaN l1 x44_3).f1)) ∧ w'.cell? (ad168.add (((ji25)).toNat * 2)) = some (.int .i64 ((qaN x6_3 (ji25)).f0)) ∧ w'.cell? ⟨(ad168.add (((ji25)).toNat * 2)).block, (ad168.add (((ji25)).toNat * 2)).off + 1, none⟩ = some (.int .i64 ((qaN x6_3 (ji25)).f1))) (ds := [15]) #[false, false, false, false, false, false, false, false, false, false, false, false, false, false, false, false] (by kernel_rfl) rfl rfl ⟨(qaD BK165.out 0).trans rfl, (qaD BK165.out 1).trans rfl, (qaD BK167.out 0).trans rfl, (qaD BK167.out 1).trans rfl, hx168_0, hx168_1⟩ (fun hHeld => ?_); refine qdW qaL.tab12 qaL.bits12 (fun HT_ HW_ => ?_)
                   generalize w34.drew = w35 at HO_6 BK165 BK167 HB hx168_0 hx168_1 hHeld ⊢
                   refine pA 0 (some 49) HT_ ?_
                   refine pA 1 (some 50) HT_ ?_
                   refine pA 2 (some 51) HT_ ?_
                   refine pA 3 (some 52) HT_ ?_
                   refine pA 4 (some 53) HT_ ?_
                   refine pA 5 (some 54) HT_ ?_
                   refine pA 6 (some 55) HT_ ?_
                   refine pA 7 (some 56) HT_ ?_
                   refine pA 8 (some 57) HT_ ?_
                   refine tA 9 (some 58) HT_ HW_ hHeld ?_
                   refine tA 10 (some 59) HT_ HW_ hHeld ?_
                   refine tA 11 (some 60) HT_ HW_ hHeld ?_
                   refine oA 12 (some 61) HT_ fun K hK => ?_
                   refine gs Try.func39 #[.agg #[.int .i64 x166000_3, .int .i64 x166001_3], .agg #[.int .i64 ((qaN l1 x44_3).f0), .int .i64 ((qaN l1 x44_3).f1)]] rfl ?_
                   with_reducible refine (qbJ.calls x166000_3 x166001_3 ((qaN l1 x44_3).f0) ((qaN l1 x44_3).f1) t169 t170 _ A28.out).mono ?_
                   rintro e w37 ⟨rfl, hb⟩
                   have HS4_ := hcb hb hHeld.2.2.2.2.1
                   have HS5_ := hcb hb hHeld.2.2.2.2.2
                   refine ⟨_, rfl, ?_⟩
                   replace HO_6 := Aside0.mk (Kd.R_below (rq HO_6.out) hb)
                   replace BK165 := Aside0.mk (qaM (h0 BK165.out) hb)
                   replace BK167 := Aside0.mk (qaM (h0 BK167.out) hb)
                   replace HB := Aside0.mk (qaC (bq HB.out (.c GE165.out (.c GE167.out .n))) hb)
                   (try clear hb)
                   (try clear hb2)
                   (try clear hk)
                   (try clear hi)
                   refine hK.out _ _ ⟨(qaD BK165.out 0).trans rfl, (qaD BK165.out 1).trans rfl, (qaD BK167.out 0).trans rfl, (qaD BK167.out 1).trans rfl, HS4_, HS5_⟩ (fun hHeld => ?_)
                   clear hK K
                   refine nA (some 61) ?_
                   refine oA 13 (some 62) HT_ fun K hK => ?_
                   refine goes_ Try.func38 (by kernel_rfl) rfl #[.agg #[.int .i64 ((qaN x6_3 (ji25)).f0), .int .i64 ((qaN x6_3 (ji25)).f1)], .agg #[.int .i64 t169, .int .i64 t170]] (by rfl) rfl rfl (by (try simp only [List.map_toArray, List.map_cons, List.map_nil]); first | done | (simp only [hji25]; rfl) | rfl | (simp only [List.length_drop, List.length_take]; rfl)) ?_
                   with_reducible refine (qbV.calls ((qaN x6_3 (ji25)).f0) ((qaN x6_3 (ji25)).f1) t169 t170 t171 t172 _ A29.out).mono ?_
                   rintro e w38 ⟨rfl, hb⟩
                   have HS4_ := hcb hb hHeld.2.2.2.2.1
                   have HS5_ := hcb hb hHeld.2.2.2.2.2
                   refine ⟨_, rfl, ?_⟩
                   replace HO_6 := Aside0.mk (Kd.R_below (rq HO_6.out) hb)
                   replace BK165 := Aside0.mk (qaM (h0 BK165.out) hb)
                   replace BK167 := Aside0.mk (qaM (h0 BK167.out) hb)
                   replace HB := Aside0.mk (qaC (bq HB.out (.c GE165.out (.c GE167.out .n))) hb)
                   (try clear hb)
                   (try clear hb2)
                   (try clear hk)
                   (try clear hi)
                   have p30 : 0 ≤ ((ji25) : Int) := od
                   have q30 : ((ji25) : Int) < ((x6_3.length : Int) : Int) := od
                   obtain ⟨go30, co30, eo30, gb30, gl30, cl30, HG30⟩ := Kd.R_form HO_6.out (by omega)
                   (first | cases eo30 | (injection eo30 with ea_ en_ ec_; (first | subst ea_ | (injection ea_ with ea_; subst ea_)); subst ec_; clear en_))
                   have GB30 := Aside0.mk gb30
                   have GG30 := Aside0.mk HG30
                   clear gb30 gl30 HG30
                   (first | simp only [add_plain] at hx168_0 | skip)
                   (first | simp only [add_plain] at hx168_1 | skip)
                   obtain ⟨ce30, hcl30, hM30, hcc30, hfr30⟩ := Kd.R_elem HO_6.out z31 ((ji25) : Int) p30 q30
                   obtain rfl := k31_openM hM30
                   have hx30_0 : World.cell? _ ⟨go30, ((ji25) : Int).toNat * 2, none⟩ = some (.int .i64 ((qaN x6_3 (ji25)).f0)) := hcc30 0 _ rfl
                   have hx30_1 : World.cell? _ ⟨go30, ((ji25) : Int).toNat * 2 + 1, none⟩ = some (.int .i64 ((qaN x6_3 (ji25)).f1)) := hcc30 1 _ rfl
                   have hf30_0 : World.frozen? _ ⟨go30, ((ji25) : Int).toNat * 2, none⟩ = false := hfr30 0
                   have hf30_1 : World.frozen? _ ⟨go30, ((ji25) : Int).toNat * 2 + 1, none⟩ = false := hfr30 1
                   clear hcl30 hcc30 hfr30 hM30
                   replace p30 := eq_true p30
                   replace q30 := eq_true q30
                   obtain ⟨ce39, hcl39, hM39, hcc39, hfr39⟩ := Kd.R_elem HO_6.out z31 ((ji25) : Int) (od) (by have h_ : ((ji25) : Int) < ((x6_3.length : Int) : Int) := od; first | exact h_ | (have e_ := (Kd.R_reads' HO_6.out).1; omega) | simpa using h_)
                   obtain rfl := k31_openM hM39
                   have HP39 := (Kd.R_seg HO_6.out ((ji25) : Int) (od) (by have h_ : ((ji25) : Int) < ((x6_3.length : Int) : Int) := od; first | exact h_ | (have e_ := (Kd.R_reads' HO_6.out).1; omega) | simpa using h_) (seg := [.int .i64 t171, .int .i64 t172]) (j := 0) hcl39 hcc39 (show 2 ≤ 2 from by decide) (x' := (⟨t171, t172⟩ : S31)) (qg7 _ _ _ (⟨t171, t172⟩ : S31) ) (fun _ hk => hk)).1
                   rw [← Ny173.out] at HP39
                   have HQ39 := Aside0.mk HP39
                   clear hcl39 hcc39 hfr39 hM39 HP39
                   refine hK.out _ _ ⟨(qaD BK165.out 0).trans rfl, (qaD BK165.out 1).trans rfl, (qaD BK167.out 0).trans rfl, (qaD BK167.out 1).trans rfl, HS4_, HS5_⟩ (fun hHeld => ?_)
                   clear hK K
                   refine nA (some 62) ?_
                   refine pA 14 (some 63) HT_ ?_
                   refine last_ (i := 15) (N := none) #[true, true, true, true, true, true, true, true, true, true, true, true, true, true, true, true] rfl rfl (one_of HT_.out (by kernel_rfl)) (by decide) (fun K hK => ?_)
                   refine skip_ (w1 := ?_) (by rfl) rfl ?_ ?_
                   rotate_left
                   ·go_simp
                    rfl
                   refine hK.out _ _ ?_
                   clear hK K
                   refine qfD (qe3 HT_.out (by kernel_rfl)) ?_
                   try go_wp2
                   go_roundg k3
                   case measure => have := HJ2.out; have := HK2.out; have := HK3.out; omega
                   case rel => exact ⟨(y173), (wrap64 (x44_3 + 1)), (x166000_3), (x166001_3), er, H', ⟨by have := HJ2.out; have := HK2.out; have := HK3.out; omega⟩, ⟨by (with_reducible repeat (first | apply Kd.R_alloc | apply Kd.R_drewN | apply Kd.R_drew)); exact Kd.R_mono HQ39.out (fun _ hk => hk.1)⟩, ⟨by (with_reducible repeat (first | refine blk_drewN ?_ _ | refine qbQ ?_ | refine blk_alloc ?_ _)); refine blk_far ?_ (by have h_ := Kd.R_away HO_6.out (fun _ hk => hk.1); intro e_; exact h_ (by rw [e_]; rfl)) _; (with_reducible repeat (first | refine blk_drewN ?_ _ | refine qbQ ?_ | refine blk_alloc ?_ _)); refine blk_far ?_ (by have h_ := Kd.R_away HO_6.out (fun _ hk => hk.1); intro e_; exact h_ (by rw [e_]; rfl)) _; exact h0 BK165.out⟩, ⟨bq HB.out (.c GB30.out (.c GB30.out (.c GE165.out (.c GE167.out .n))))⟩⟩
                  ·rw [if_neg c27] at H
                   exact absurd H (by simp)
                 ·rw [if_neg c26] at H
                  exact absurd H (by simp)
                ·rw [if_neg c24] at H
                 exact absurd H (by simp)
               ·rw [if_neg c23] at H
                exact absurd H (by simp)
              ·rw [if_neg c22] at H
               have c22b0 : decide (x44_3 < (l1.length : Int)) = false := decide_eq_false c22
               clear c22
               have H' := Aside0.mk H
               clear H
               go_wp2
               go_roundg k3
               case measure => have := HJ2.out; have := HK2.out; have := HK3.out; omega
               case rel => exact ⟨(x6_3), (wrap64 (x37_2 + 1)), er, H', ⟨by have := HJ2.out; have := HK2.out; have := HK3.out; omega⟩, ⟨by (with_reducible repeat (first | apply Kd.R_alloc | apply Kd.R_drewN | apply Kd.R_drew)); exact Kd.R_mono HO_6.out (fun _ hk => trivial)⟩, ⟨bq HB.out (.c GE165.out .n)⟩⟩
           ·rw [if_neg c19] at H
            exact absurd H (by simp)
          ·rw [if_neg c18] at H
           exact absurd H (by simp)
         ·rw [if_neg c17] at H
          have c17b0 : decide (x37_2 < (l0.length : Int)) = false := decide_eq_false c17
          clear c17
          replace H := Option.bind_eq_some_iff.mp H
          obtain ⟨⟨t160, t163⟩, A400, H⟩ := H
          replace H : (some (t160, t163)) = some (r1, r2) := H
          have A40 := Aside0.mk A400
          clear A400
          simp only [Option.some.injEq, Prod.mk.injEq] at H
          obtain ⟨rfl, rfl⟩ := H
          obtain ⟨Ao41, co41, eo41⟩ := Kd.R_slice HO_6.out
          subst eo41
          go_wp2_with (first | ((with_reducible refine qaV (f := 66) rfl ?_); refine qcL (some 67) rfl rfl Try.func66 (by kernel_rfl) rfl #[.slice Ao41 x6_2.length co41] rfl (by (try simp only [List.map_toArray, List.map_cons, List.map_nil]); first | done | rfl | (simp only [List.length_drop, List.length_take]; rfl)) ?_; (with_reducible refine (qdB.calls k2 (fun k_ => some k_ = (.slice Ao41 x6_2.length co41 : Value).ownBlock) (.slice Ao41 x6_2.length co41) x6_2 t160 t163 w _ ?side1 ?side2 A40.out).mono ?_); (case side1 => exact b0 HB.out); (case side2 => exact Kd.R_tight rfl HO_6.out); rintro e w42 ⟨v161, rfl, ho0, hb, hkp⟩; refine ⟨_, rfl, ?_⟩; have HO162 := Aside0.mk (Kd.R_mono (ok' := fun k_ => True) ho0 (fun k_ hk_ => trivial)); replace HB := Aside0.mk (hb); clear HO_6; (try clear hb); (try clear hkp); (try clear ho0)))
          go_ret2
          exact ⟨_, by first | rfl | (simp [qbA, qa9] <;> rfl) | (simp only [← hji12]; first | rfl | (simp [qbA, qa9] <;> rfl)) | (simp [*, qbA, qa9] <;> rfl), by (with_reducible repeat (first | apply Kd.R_alloc | apply Kd.R_drewN | apply Kd.R_drew)); exact HO162.out, b0 HB.out⟩
      ·rw [if_neg c14] at H
       exact absurd H (by simp)
     ·rw [if_neg c13] at H
      exact absurd H (by simp)
end Go.Proofs.Ytogpbandlpjccaa.TX
