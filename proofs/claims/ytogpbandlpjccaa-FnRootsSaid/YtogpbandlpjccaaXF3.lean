/- The machine walks these functions as the plain functions say; written by a program of this session out of the translation, with contracts of some functions of our own. -/
import Derived.Test.YtogpbandlpjccaaXF2
namespace Go.Proofs.Ytogpbandlpjccaa.TX
open Go.RowKit Go.Proofs.YtogpbandlpjccaaW.PrintWords Go.Proofs.YtogpbandlpjccaaW.PrintLast Go.Proofs.YtogpbandlpjccaaW.PrintMore
set_option linter.unusedVariables false
set_option linter.unusedSimpArgs false
def qa3.l0 : Nat → List Int → List (S31) → Int → Option ((List (S31)) × Bool)
 | 0, _, _, _ => none
 | k + 1, x0, x4, x5 => if x5 < (x0.length : Int) then (if 0 ≤ x5 then ((qa7.f (wrap64 (-(rd x0 x5)))).bind fun bt180 => ((qa7.f 1).bind fun bt182 => ((qaL.f k x4 (([(⟨bt180.1, bt180.2⟩ : S31), (⟨bt182.1, bt182.2⟩ : S31)] : List (S31)))).bind fun bt187 => (if bt187.2 = 0 then (if (bt187.1.length : Int) = (wrap64 (x5 + 2)) then (qa3.l0 k x0 bt187.1 (wrap64 (x5 + 1))) else (some (([] : List (S31)), false))) else (some (([] : List (S31)), false)))))) else (none)) else (some (x4, true))
def qa3.f (k : Nat) (l0 : List Int) : Option ((List (S31)) × Bool) := (qa7.f 1).bind fun bt174 => (qa3.l0 k l0 (([(⟨bt174.1, bt174.2⟩ : S31)] : List (S31))) 0)
theorem qa3.mono_l : ∀ k, (∀ y0 y1 y2, LeO (qa3.l0 k y0 y1 y2) (qa3.l0 (k + 1) y0 y1 y2))
 | 0 => fun _ _ _ r h => by simp [qa3.l0] at h
 | k + 1 => by
  have ih0 := qa3.mono_l k
  ·intro y0 y1 y2
   unfold qa3.l0
   repeat' first
   | (with_reducible exact ih0 _ _ _)
   | (with_reducible exact qaL.mono _ _ _)
   | (with_reducible exact LeO.refl _)
   | (with_reducible exact LeO.none _)
   | (with_reducible refine LeO.ite ?_ ?_)
   | (with_reducible refine LeO.bind ?_ (fun _ => ?_))
   | exact ih0 _ _ _
   | exact qaL.mono _ _ _
   | exact LeO.none _
   | refine LeO.ite ?_ ?_
   | refine LeO.bind ?_ (fun _ => ?_)
theorem qa3.mono : ∀ a0 k, LeO (qa3.f k a0) (qa3.f (k + 1) a0) := by
 intro a0 k
 have ih0 := qa3.mono_l k
 unfold qa3.f
 repeat' first
   | (with_reducible exact ih0 _ _ _)
   | (with_reducible exact qaL.mono _ _ _)
   | (with_reducible exact LeO.refl _)
   | (with_reducible exact LeO.none _)
   | (with_reducible refine LeO.ite ?_ ?_)
   | (with_reducible refine LeO.bind ?_ (fun _ => ?_))
   | exact ih0 _ _ _
   | exact qaL.mono _ _ _
   | exact LeO.none _
   | refine LeO.ite ?_ ?_
   | refine LeO.bind ?_ (fun _ => ?_)
set_option maxHeartbeats 8000000 in
set_option maxRecDepth 100000 in
theorem qa3.calls (k : Nat) (A0 : Option Addr) (c0 : Nat) (l0 : List Int) (r1 : List (S31)) (r2 : Bool) (w : World) (hr0 : Kd.C (Kd.int .i64) w A0 l0.length l0) (hc0 : l0.length ≤ c0) (h : qa3.f k l0 = some (r1, r2)) :
  Calls Try.prog 7 #[.slice A0 l0.length c0] w fun e w' => ∃ v0_ : Value, e = .returned (.tuple #[v0_, .bool r2]) ∧ Kd.R k31 31 w' w.heap.size (fun _ => True) v0_ r1 ∧ Below w.heap.size w w' := by
 have HR0 := Aside0.mk hr0
 have HC0 := Aside0.mk hc0
 clear hr0 hc0
 have HB := Aside0.mk (Below.refl w.heap.size w)
 have H : ((qa7.f 1).bind fun bt174 => (qa3.l0 k l0 (([(⟨bt174.1, bt174.2⟩ : S31)] : List (S31))) 0)) = some (r1, r2) := h
 clear h
 replace H := Option.bind_eq_some_iff.mp H
 obtain ⟨⟨t174, t175⟩, A20, H⟩ := H
 replace H : (qa3.l0 k l0 (([(⟨t174, t175⟩ : S31)] : List (S31))) 0) = some (r1, r2) := H
 have A2 := Aside0.mk A20
 clear A20
 obtain ⟨y176, hy176⟩ : ∃ y_ : List (S31), y_ = (([(⟨t174, t175⟩ : S31)] : List (S31))) := ⟨_, rfl⟩
 replace H : (qa3.l0 k l0 y176 0) = some (r1, r2) := by first | (rw [hy176]; with_reducible exact H) | (have H2_ := (Option.bind_some _ _).symm.trans H; rw [hy176]; with_reducible exact H2_) | (have H2_ := (Option.bind_some _ _).symm.trans H; with_reducible exact H2_) | with_reducible exact H | (rw [hy176]; exact H) | exact H
 have Ny176 := Aside0.mk hy176
 clear hy176
 have H' := Aside0.mk H
 clear H
 go_enter Try.func7, Try.ntmps7
 go_wp2_with (first | ((with_reducible refine qaV (f := 12) rfl ?_); refine qcL (some 8) rfl rfl Try.func12 (by kernel_rfl) rfl #[.int .i64 1] rfl (by (try simp only [List.map_toArray, List.map_cons, List.map_nil]); first | done | rfl | (simp only [List.length_drop, List.length_take]; rfl)) ?_; (with_reducible refine (qa7.calls 1 t174 t175 _ A2.out).mono ?_); rintro e w3 ⟨rfl, hb⟩; refine ⟨_, rfl, ?_⟩; replace HB := Aside0.mk (qaC (b0 HB.out) hb); (try clear hb); (try clear hb2); (try clear hk); (try clear hi)) | ((with_reducible refine qcR (N := 9) rfl ?_); (try (refine qfN (by rfl) ?_; dsimp only)); refine Kd.R_lit k31 _ 31 ?hg (N := 9) ?hd (xs := ([(⟨t174, t175⟩ : S31)] : List (S31))) (inner := [.int .i64 t174, .int .i64 t175]) (ok := fun _ => True) (okp := fun _ => True) ?hr ?hp (fun _ hk => hk) trivial (Below.refl _ _) (Nat.le_refl _) (by simp) ?_; (case hd => rfl); (case hg => rfl); (case hr => first | (go_simp; done) | (go_simp; rfl)); (case hp => exact (Reps.c2 (show Kd.M k31 _ _ _ (⟨t174, t175⟩ : S31) [.int .i64 t174, .int .i64 t175] from (qg7 _ _ _ (⟨t174, t175⟩ : S31) )) (Reps.none _ _))); intro v177 w4 ho5 hb hg_ hnew_; clear hg_ hnew_; (first | rw [← Ny176.out] at ho5 | (simp only [Int.reduceToNat] at ho5; rw [← Ny176.out] at ho5)); have HO178 := Aside0.mk (Kd.R_lower ho5 (qbP (b0 HB.out))); replace HB := Aside0.mk (qaC (b0 HB.out) hb); clear hb ho5))
 go_loopg [4, 5] k (fun kq v4 v5 w' => ∃ (x4_1 : List (S31)) (x5_1 : Int), v5 = .int .i64 x5_1 ∧ Aside0 (qa3.l0 kq l0 x4_1 x5_1 = some (r1, r2)) ∧ Aside0 (kq ≤ k) ∧ Aside0 (Kd.R k31 31 w' w.heap.size (fun _ => True) v4 x4_1) ∧ Aside0 (Below w.heap.size w w'))
 case atStart => exact ⟨(y176), (0), er, H', ⟨Nat.le_refl _⟩, ⟨rq HO178.out⟩, ⟨b0 HB.out⟩⟩
 case round =>
  clear H'
  try clear c1
  try clear c2
  try clear p2
  obtain ⟨x4_1, x5_1, rfl, HA, HK1, HO_4, HB⟩ := hrel
  cases gk with
  | zero => exact absurd HA.out (by simp [qa3.l0])
  | succ k1 =>
   have H := HA.out
   clear HA
   simp only [qa3.l0] at H
   by_cases c6 : x5_1 < (l0.length : Int)
   ·rw [if_pos c6] at H
    have c6b0 : decide (x5_1 < (l0.length : Int)) = true := decide_eq_true c6
    clear c6
    by_cases c7 : 0 ≤ x5_1
    ·rw [if_pos c7] at H
     have c7b0 : decide (0 ≤ x5_1) = true := decide_eq_true c7
     clear c7
     replace H := Option.bind_eq_some_iff.mp H
     obtain ⟨⟨t180, t181⟩, A80, H⟩ := H
     replace H : ((qa7.f 1).bind fun bt182 => ((qaL.f k1 x4_1 (([(⟨t180, t181⟩ : S31), (⟨bt182.1, bt182.2⟩ : S31)] : List (S31)))).bind fun bt187 => (if bt187.2 = 0 then (if (bt187.1.length : Int) = (wrap64 (x5_1 + 2)) then (qa3.l0 k1 l0 bt187.1 (wrap64 (x5_1 + 1))) else (some (([] : List (S31)), false))) else (some (([] : List (S31)), false))))) = some (r1, r2) := H
     have A8 := Aside0.mk A80
     clear A80
     replace H := Option.bind_eq_some_iff.mp H
     obtain ⟨⟨t182, t183⟩, A90, H⟩ := H
     replace H : ((qaL.f k1 x4_1 (([(⟨t180, t181⟩ : S31), (⟨t182, t183⟩ : S31)] : List (S31)))).bind fun bt187 => (if bt187.2 = 0 then (if (bt187.1.length : Int) = (wrap64 (x5_1 + 2)) then (qa3.l0 k1 l0 bt187.1 (wrap64 (x5_1 + 1))) else (some (([] : List (S31)), false))) else (some (([] : List (S31)), false)))) = some (r1, r2) := H
     have A9 := Aside0.mk A90
     clear A90
     obtain ⟨y184, hy184⟩ : ∃ y_ : List (S31), y_ = (([(⟨t180, t181⟩ : S31), (⟨t182, t183⟩ : S31)] : List (S31))) := ⟨_, rfl⟩
     replace H : ((qaL.f k1 x4_1 y184).bind fun bt187 => (if bt187.2 = 0 then (if (bt187.1.length : Int) = (wrap64 (x5_1 + 2)) then (qa3.l0 k1 l0 bt187.1 (wrap64 (x5_1 + 1))) else (some (([] : List (S31)), false))) else (some (([] : List (S31)), false)))) = some (r1, r2) := by first | (rw [hy184]; with_reducible exact H) | (have H2_ := (Option.bind_some _ _).symm.trans H; rw [hy184]; with_reducible exact H2_) | (have H2_ := (Option.bind_some _ _).symm.trans H; with_reducible exact H2_) | with_reducible exact H | (rw [hy184]; exact H) | exact H
     have Ny184 := Aside0.mk hy184
     clear hy184
     replace H := Option.bind_eq_some_iff.mp H
     obtain ⟨⟨t187, t188⟩, A100, H⟩ := H
     replace H : (if t188 = 0 then (if (t187.length : Int) = (wrap64 (x5_1 + 2)) then (qa3.l0 k1 l0 t187 (wrap64 (x5_1 + 1))) else (some (([] : List (S31)), false))) else (some (([] : List (S31)), false))) = some (r1, r2) := H
     have A10 := Aside0.mk A100
     clear A100
     by_cases c11 : t188 = 0
     ·rw [if_pos c11] at H
      have c11b0 : (t188 == 0) = true := beq_iff_eq.mpr c11
      have c11b1 : (t188 != 0) = false := bne_eq_false_iff_eq.mpr c11
      clear c11
      by_cases c12 : (t187.length : Int) = (wrap64 (x5_1 + 2))
      ·rw [if_pos c12] at H
       have c12b0 : ((t187.length : Int) == (wrap64 (x5_1 + 2))) = true := beq_iff_eq.mpr c12
       have c12b1 : ((t187.length : Int) != (wrap64 (x5_1 + 2))) = false := bne_eq_false_iff_eq.mpr c12
       clear c12
       have H' := Aside0.mk H
       clear H
       have p179 : 0 ≤ (x5_1 : Int) := od
       have q179 : x5_1 < (l0.length : Int) := od
       obtain ⟨ad179, e179, hx179_0⟩ := Kd.at_int HR0.out x5_1 p179 q179
       cases e179
       replace hx179_0 := (HB.out.cell (World.block_lt_of_cell? w _ hx179_0)).trans hx179_0
       replace p179 := eq_true p179
       replace q179 := eq_true q179
       go_wp2_with (first | ((with_reducible refine qaV (f := 12) rfl ?_); refine qcL (some 23) rfl rfl Try.func12 (by kernel_rfl) rfl #[.int .i64 (wrap64 (-(rd l0 x5_1)))] rfl (by (try simp only [List.map_toArray, List.map_cons, List.map_nil]); first | done | rfl | (simp only [List.length_drop, List.length_take]; rfl)) ?_; (with_reducible refine (qa7.calls (wrap64 (-(rd l0 x5_1))) t180 t181 _ A8.out).mono ?_); rintro e w13 ⟨rfl, hb⟩; refine ⟨_, rfl, ?_⟩; replace HO_4 := Aside0.mk (Kd.R_below (rq HO_4.out) hb); replace HB := Aside0.mk (qaC (b0 HB.out) hb); (try clear hb); (try clear hb2); (try clear hk); (try clear hi)) | ((with_reducible refine qaV (f := 12) rfl ?_); refine qcL (some 24) rfl rfl Try.func12 (by kernel_rfl) rfl #[.int .i64 1] rfl (by (try simp only [List.map_toArray, List.map_cons, List.map_nil]); first | done | rfl | (simp only [List.length_drop, List.length_take]; rfl)) ?_; (with_reducible refine (qa7.calls 1 t182 t183 _ A9.out).mono ?_); rintro e w14 ⟨rfl, hb⟩; refine ⟨_, rfl, ?_⟩; replace HO_4 := Aside0.mk (Kd.R_below (rq HO_4.out) hb); replace HB := Aside0.mk (qaC (b0 HB.out) hb); (try clear hb); (try clear hb2); (try clear hk); (try clear hi)) | ((with_reducible refine qcR (N := 25) rfl ?_); (try (refine qfN (by rfl) ?_; dsimp only)); refine Kd.R_lit k31 _ 31 ?hg (N := 25) ?hd (xs := ([(⟨t180, t181⟩ : S31), (⟨t182, t183⟩ : S31)] : List (S31))) (inner := [.int .i64 t180, .int .i64 t181, .int .i64 t182, .int .i64 t183]) (ok := fun _ => True) (okp := fun _ => True) ?hr ?hp (fun _ hk => hk) trivial (Below.refl _ _) (Nat.le_refl _) (by simp) ?_; (case hd => rfl); (case hg => rfl); (case hr => first | (go_simp; done) | (go_simp; rfl)); (case hp => exact (Reps.c2 (show Kd.M k31 _ _ _ (⟨t180, t181⟩ : S31) [.int .i64 t180, .int .i64 t181] from (qg7 _ _ _ (⟨t180, t181⟩ : S31) )) (Reps.c2 (show Kd.M k31 _ _ _ (⟨t182, t183⟩ : S31) [.int .i64 t182, .int .i64 t183] from (qg7 _ _ _ (⟨t182, t183⟩ : S31) )) (Reps.none _ _)))); intro v185 w15 ho16 hb hg_ hnew_; clear hg_ hnew_; (first | rw [← Ny184.out] at ho16 | (simp only [Int.reduceToNat] at ho16; rw [← Ny184.out] at ho16)); have HO186 := Aside0.mk (Kd.R_lower (Kd.R_new' ho16 (Kd.R_lt (rq HO_4.out))) (qbP (b0 HB.out))); replace HO_4 := Aside0.mk (Kd.R_elder' (rq HO_4.out) (Kd.R_base ho16) hb); replace HB := Aside0.mk (qaC (b0 HB.out) hb); clear hb ho16; obtain ⟨Ao17, co17, eo17⟩ := Kd.R_slice HO_4.out; subst eo17; obtain ⟨Ao18, co18, eo18⟩ := Kd.R_slice HO186.out; subst eo18) | ((with_reducible refine qaV (f := 29) rfl ?_); refine qcL (some 26) rfl rfl Try.func29 (by kernel_rfl) rfl #[.slice Ao17 x4_1.length co17, .slice Ao18 y184.length co18] rfl (by (try simp only [List.map_toArray, List.map_cons, List.map_nil]); first | done | rfl | (simp only [List.length_drop, List.length_take]; rfl)) ?_; (with_reducible refine (qaL.calls k1 _ _ x4_1 _ _ y184 t187 t188 _ ?side1 ?side2 ?side3 ?side4 A10.out).mono ?_); (case side1 => repeat (first | exact (Kd.R_reads' HO_4.out).2.2 | (with_reducible refine Kd.C_alloc ?_ _) | (with_reducible refine Kd.C_drewN ?_ _) | (with_reducible refine Kd.C_drew ?_))); (case side2 => exact (Kd.R_reads' HO_4.out).2.1); (case side3 => repeat (first | exact (Kd.R_reads' HO186.out).2.2 | (with_reducible refine Kd.C_alloc ?_ _) | (with_reducible refine Kd.C_drewN ?_ _) | (with_reducible refine Kd.C_drew ?_))); (case side4 => exact (Kd.R_reads' HO186.out).2.1); rintro e w19 ⟨v189, rfl, ho0, hb⟩; refine ⟨_, rfl, ?_⟩; have HO190 := Aside0.mk (Kd.R_lower (Kd.R_new' (Kd.R_new' ho0 (Kd.R_lt (rq HO_4.out))) (Kd.R_lt (rq HO186.out))) (qbP (b0 HB.out))); replace HO_4 := Aside0.mk (Kd.R_elder' (rq HO_4.out) (Kd.R_base ho0) hb); replace HO186 := Aside0.mk (Kd.R_elder' (rq HO186.out) (Kd.R_base ho0) hb); replace HB := Aside0.mk (qaC (b0 HB.out) hb); (try clear hb); (try clear hb2); (try clear hk); (try clear hi); (try clear ho0); obtain ⟨Ao20, co20, eo20⟩ := Kd.R_slice HO190.out; subst eo20))
       go_roundg k1
       case measure => have := HK1.out; omega
       case rel => exact ⟨(t187), (wrap64 (x5_1 + 1)), er, H', ⟨by have := HK1.out; omega⟩, ⟨by (with_reducible repeat (first | apply Kd.R_alloc | apply Kd.R_drewN | apply Kd.R_drew)); exact Kd.R_mono HO190.out (fun _ hk => trivial)⟩, ⟨b0 HB.out⟩⟩
      ·rw [if_neg c12] at H
       have c12b0 : ((t187.length : Int) == (wrap64 (x5_1 + 2))) = false := beq_eq_false_iff_ne.mpr c12
       have c12b1 : ((t187.length : Int) != (wrap64 (x5_1 + 2))) = true := bne_iff_ne.mpr c12
       simp only [Option.some.injEq, Prod.mk.injEq] at H
       obtain ⟨rfl, rfl⟩ := H
       have p179 : 0 ≤ (x5_1 : Int) := od
       have q179 : x5_1 < (l0.length : Int) := od
       obtain ⟨ad179, e179, hx179_0⟩ := Kd.at_int HR0.out x5_1 p179 q179
       cases e179
       replace hx179_0 := (HB.out.cell (World.block_lt_of_cell? w _ hx179_0)).trans hx179_0
       replace p179 := eq_true p179
       replace q179 := eq_true q179
       go_wp2_with (first | ((with_reducible refine qaV (f := 12) rfl ?_); refine qcL (some 23) rfl rfl Try.func12 (by kernel_rfl) rfl #[.int .i64 (wrap64 (-(rd l0 x5_1)))] rfl (by (try simp only [List.map_toArray, List.map_cons, List.map_nil]); first | done | rfl | (simp only [List.length_drop, List.length_take]; rfl)) ?_; (with_reducible refine (qa7.calls (wrap64 (-(rd l0 x5_1))) t180 t181 _ A8.out).mono ?_); rintro e w21 ⟨rfl, hb⟩; refine ⟨_, rfl, ?_⟩; replace HO_4 := Aside0.mk (Kd.R_below (rq HO_4.out) hb); replace HB := Aside0.mk (qaC (b0 HB.out) hb); (try clear hb); (try clear hb2); (try clear hk); (try clear hi)) | ((with_reducible refine qaV (f := 12) rfl ?_); refine qcL (some 24) rfl rfl Try.func12 (by kernel_rfl) rfl #[.int .i64 1] rfl (by (try simp only [List.map_toArray, List.map_cons, List.map_nil]); first | done | rfl | (simp only [List.length_drop, List.length_take]; rfl)) ?_; (with_reducible refine (qa7.calls 1 t182 t183 _ A9.out).mono ?_); rintro e w22 ⟨rfl, hb⟩; refine ⟨_, rfl, ?_⟩; replace HO_4 := Aside0.mk (Kd.R_below (rq HO_4.out) hb); replace HB := Aside0.mk (qaC (b0 HB.out) hb); (try clear hb); (try clear hb2); (try clear hk); (try clear hi)) | ((with_reducible refine qcR (N := 25) rfl ?_); (try (refine qfN (by rfl) ?_; dsimp only)); refine Kd.R_lit k31 _ 31 ?hg (N := 25) ?hd (xs := ([(⟨t180, t181⟩ : S31), (⟨t182, t183⟩ : S31)] : List (S31))) (inner := [.int .i64 t180, .int .i64 t181, .int .i64 t182, .int .i64 t183]) (ok := fun _ => True) (okp := fun _ => True) ?hr ?hp (fun _ hk => hk) trivial (Below.refl _ _) (Nat.le_refl _) (by simp) ?_; (case hd => rfl); (case hg => rfl); (case hr => first | (go_simp; done) | (go_simp; rfl)); (case hp => exact (Reps.c2 (show Kd.M k31 _ _ _ (⟨t180, t181⟩ : S31) [.int .i64 t180, .int .i64 t181] from (qg7 _ _ _ (⟨t180, t181⟩ : S31) )) (Reps.c2 (show Kd.M k31 _ _ _ (⟨t182, t183⟩ : S31) [.int .i64 t182, .int .i64 t183] from (qg7 _ _ _ (⟨t182, t183⟩ : S31) )) (Reps.none _ _)))); intro v185 w23 ho24 hb hg_ hnew_; clear hg_ hnew_; (first | rw [← Ny184.out] at ho24 | (simp only [Int.reduceToNat] at ho24; rw [← Ny184.out] at ho24)); have HO186 := Aside0.mk (Kd.R_lower (Kd.R_new' ho24 (Kd.R_lt (rq HO_4.out))) (qbP (b0 HB.out))); replace HO_4 := Aside0.mk (Kd.R_elder' (rq HO_4.out) (Kd.R_base ho24) hb); replace HB := Aside0.mk (qaC (b0 HB.out) hb); clear hb ho24; obtain ⟨Ao25, co25, eo25⟩ := Kd.R_slice HO_4.out; subst eo25; obtain ⟨Ao26, co26, eo26⟩ := Kd.R_slice HO186.out; subst eo26) | ((with_reducible refine qaV (f := 29) rfl ?_); refine qcL (some 26) rfl rfl Try.func29 (by kernel_rfl) rfl #[.slice Ao25 x4_1.length co25, .slice Ao26 y184.length co26] rfl (by (try simp only [List.map_toArray, List.map_cons, List.map_nil]); first | done | rfl | (simp only [List.length_drop, List.length_take]; rfl)) ?_; (with_reducible refine (qaL.calls k1 _ _ x4_1 _ _ y184 t187 t188 _ ?side1 ?side2 ?side3 ?side4 A10.out).mono ?_); (case side1 => repeat (first | exact (Kd.R_reads' HO_4.out).2.2 | (with_reducible refine Kd.C_alloc ?_ _) | (with_reducible refine Kd.C_drewN ?_ _) | (with_reducible refine Kd.C_drew ?_))); (case side2 => exact (Kd.R_reads' HO_4.out).2.1); (case side3 => repeat (first | exact (Kd.R_reads' HO186.out).2.2 | (with_reducible refine Kd.C_alloc ?_ _) | (with_reducible refine Kd.C_drewN ?_ _) | (with_reducible refine Kd.C_drew ?_))); (case side4 => exact (Kd.R_reads' HO186.out).2.1); rintro e w27 ⟨v189, rfl, ho0, hb⟩; refine ⟨_, rfl, ?_⟩; have HO190 := Aside0.mk (Kd.R_lower (Kd.R_new' (Kd.R_new' ho0 (Kd.R_lt (rq HO_4.out))) (Kd.R_lt (rq HO186.out))) (qbP (b0 HB.out))); replace HO_4 := Aside0.mk (Kd.R_elder' (rq HO_4.out) (Kd.R_base ho0) hb); replace HO186 := Aside0.mk (Kd.R_elder' (rq HO186.out) (Kd.R_base ho0) hb); replace HB := Aside0.mk (qaC (b0 HB.out) hb); (try clear hb); (try clear hb2); (try clear hk); (try clear hi); (try clear ho0); obtain ⟨Ao28, co28, eo28⟩ := Kd.R_slice HO190.out; subst eo28))
       go_ret2
       exact ⟨_, by first | rfl | (simp [qbA, qa9] <;> rfl) | (simp [*, qbA, qa9] <;> rfl), Kd.R_nil _ _ _ _ _, b0 HB.out⟩
     ·rw [if_neg c11] at H
      have c11b0 : (t188 == 0) = false := beq_eq_false_iff_ne.mpr c11
      have c11b1 : (t188 != 0) = true := bne_iff_ne.mpr c11
      simp only [Option.some.injEq, Prod.mk.injEq] at H
      obtain ⟨rfl, rfl⟩ := H
      have p179 : 0 ≤ (x5_1 : Int) := od
      have q179 : x5_1 < (l0.length : Int) := od
      obtain ⟨ad179, e179, hx179_0⟩ := Kd.at_int HR0.out x5_1 p179 q179
      cases e179
      replace hx179_0 := (HB.out.cell (World.block_lt_of_cell? w _ hx179_0)).trans hx179_0
      replace p179 := eq_true p179
      replace q179 := eq_true q179
      go_wp2_with (first | ((with_reducible refine qaV (f := 12) rfl ?_); refine qcL (some 23) rfl rfl Try.func12 (by kernel_rfl) rfl #[.int .i64 (wrap64 (-(rd l0 x5_1)))] rfl (by (try simp only [List.map_toArray, List.map_cons, List.map_nil]); first | done | rfl | (simp only [List.length_drop, List.length_take]; rfl)) ?_; (with_reducible refine (qa7.calls (wrap64 (-(rd l0 x5_1))) t180 t181 _ A8.out).mono ?_); rintro e w29 ⟨rfl, hb⟩; refine ⟨_, rfl, ?_⟩; replace HO_4 := Aside0.mk (Kd.R_below (rq HO_4.out) hb); replace HB := Aside0.mk (qaC (b0 HB.out) hb); (try clear hb); (try clear hb2); (try clear hk); (try clear hi)) | ((with_reducible refine qaV (f := 12) rfl ?_); refine qcL (some 24) rfl rfl Try.func12 (by kernel_rfl) rfl #[.int .i64 1] rfl (by (try simp only [List.map_toArray, List.map_cons, List.map_nil]); first | done | rfl | (simp only [List.length_drop, List.length_take]; rfl)) ?_; (with_reducible refine (qa7.calls 1 t182 t183 _ A9.out).mono ?_); rintro e w30 ⟨rfl, hb⟩; refine ⟨_, rfl, ?_⟩; replace HO_4 := Aside0.mk (Kd.R_below (rq HO_4.out) hb); replace HB := Aside0.mk (qaC (b0 HB.out) hb); (try clear hb); (try clear hb2); (try clear hk); (try clear hi)) | ((with_reducible refine qcR (N := 25) rfl ?_); (try (refine qfN (by rfl) ?_; dsimp only)); refine Kd.R_lit k31 _ 31 ?hg (N := 25) ?hd (xs := ([(⟨t180, t181⟩ : S31), (⟨t182, t183⟩ : S31)] : List (S31))) (inner := [.int .i64 t180, .int .i64 t181, .int .i64 t182, .int .i64 t183]) (ok := fun _ => True) (okp := fun _ => True) ?hr ?hp (fun _ hk => hk) trivial (Below.refl _ _) (Nat.le_refl _) (by simp) ?_; (case hd => rfl); (case hg => rfl); (case hr => first | (go_simp; done) | (go_simp; rfl)); (case hp => exact (Reps.c2 (show Kd.M k31 _ _ _ (⟨t180, t181⟩ : S31) [.int .i64 t180, .int .i64 t181] from (qg7 _ _ _ (⟨t180, t181⟩ : S31) )) (Reps.c2 (show Kd.M k31 _ _ _ (⟨t182, t183⟩ : S31) [.int .i64 t182, .int .i64 t183] from (qg7 _ _ _ (⟨t182, t183⟩ : S31) )) (Reps.none _ _)))); intro v185 w31 ho32 hb hg_ hnew_; clear hg_ hnew_; (first | rw [← Ny184.out] at ho32 | (simp only [Int.reduceToNat] at ho32; rw [← Ny184.out] at ho32)); have HO186 := Aside0.mk (Kd.R_lower (Kd.R_new' ho32 (Kd.R_lt (rq HO_4.out))) (qbP (b0 HB.out))); replace HO_4 := Aside0.mk (Kd.R_elder' (rq HO_4.out) (Kd.R_base ho32) hb); replace HB := Aside0.mk (qaC (b0 HB.out) hb); clear hb ho32; obtain ⟨Ao33, co33, eo33⟩ := Kd.R_slice HO_4.out; subst eo33; obtain ⟨Ao34, co34, eo34⟩ := Kd.R_slice HO186.out; subst eo34) | ((with_reducible refine qaV (f := 29) rfl ?_); refine qcL (some 26) rfl rfl Try.func29 (by kernel_rfl) rfl #[.slice Ao33 x4_1.length co33, .slice Ao34 y184.length co34] rfl (by (try simp only [List.map_toArray, List.map_cons, List.map_nil]); first | done | rfl | (simp only [List.length_drop, List.length_take]; rfl)) ?_; (with_reducible refine (qaL.calls k1 _ _ x4_1 _ _ y184 t187 t188 _ ?side1 ?side2 ?side3 ?side4 A10.out).mono ?_); (case side1 => repeat (first | exact (Kd.R_reads' HO_4.out).2.2 | (with_reducible refine Kd.C_alloc ?_ _) | (with_reducible refine Kd.C_drewN ?_ _) | (with_reducible refine Kd.C_drew ?_))); (case side2 => exact (Kd.R_reads' HO_4.out).2.1); (case side3 => repeat (first | exact (Kd.R_reads' HO186.out).2.2 | (with_reducible refine Kd.C_alloc ?_ _) | (with_reducible refine Kd.C_drewN ?_ _) | (with_reducible refine Kd.C_drew ?_))); (case side4 => exact (Kd.R_reads' HO186.out).2.1); rintro e w35 ⟨v189, rfl, ho0, hb⟩; refine ⟨_, rfl, ?_⟩; have HO190 := Aside0.mk (Kd.R_lower (Kd.R_new' (Kd.R_new' ho0 (Kd.R_lt (rq HO_4.out))) (Kd.R_lt (rq HO186.out))) (qbP (b0 HB.out))); replace HO_4 := Aside0.mk (Kd.R_elder' (rq HO_4.out) (Kd.R_base ho0) hb); replace HO186 := Aside0.mk (Kd.R_elder' (rq HO186.out) (Kd.R_base ho0) hb); replace HB := Aside0.mk (qaC (b0 HB.out) hb); (try clear hb); (try clear hb2); (try clear hk); (try clear hi); (try clear ho0)))
      go_ret2
      exact ⟨_, by first | rfl | (simp [qbA, qa9] <;> rfl) | (simp [*, qbA, qa9] <;> rfl), Kd.R_nil _ _ _ _ _, b0 HB.out⟩
    ·rw [if_neg c7] at H
     exact absurd H (by simp)
   ·rw [if_neg c6] at H
    have c6b0 : decide (x5_1 < (l0.length : Int)) = false := decide_eq_false c6
    clear c6
    simp only [Option.some.injEq, Prod.mk.injEq] at H
    obtain ⟨rfl, rfl⟩ := H
    go_wp2
    go_ret2
    exact ⟨_, by first | rfl | (simp [qbA, qa9] <;> rfl) | (simp [*, qbA, qa9] <;> rfl), by (with_reducible repeat (first | apply Kd.R_alloc | apply Kd.R_drewN | apply Kd.R_drew)); exact HO_4.out, b0 HB.out⟩
def qeN.f (l0 : List Int) (a1 : Int) (a2 : Int) : Option (Int) := if a1 ≥ (l0.length : Int) then (some 0) else (if a2 < 1 then (some 0) else (if 0 ≤ a1 then (if a1 < (l0.length : Int) then (if a2 = 0 then (none) else (some (Int.tmod (wrap64 (rd l0 a1)) a2))) else (none)) else (none)))
set_option maxHeartbeats 8000000 in
set_option maxRecDepth 100000 in
theorem qeN.calls (A0 : Option Addr) (c0 : Nat) (l0 : List Int) (a1 : Int) (a2 : Int) (r : Int) (w : World) (hr0 : Kd.C (Kd.int .u8) w A0 l0.length l0) (hc0 : l0.length ≤ c0) (h : qeN.f l0 a1 a2 = some r) :
  Calls Try.prog 8 #[.slice A0 l0.length c0, .int .i64 a1, .int .i64 a2] w fun e w' => e = .returned (.int .i64 r) ∧ Drawn0 w w' := by
 have HR0 := Aside0.mk hr0
 have HC0 := Aside0.mk hc0
 clear hr0 hc0
 have H : (if a1 ≥ (l0.length : Int) then (some 0) else (if a2 < 1 then (some 0) else (if 0 ≤ a1 then (if a1 < (l0.length : Int) then (if a2 = 0 then (none) else (some (Int.tmod (wrap64 (rd l0 a1)) a2))) else (none)) else (none)))) = some r := h
 clear h
 by_cases c4 : a1 ≥ (l0.length : Int)
 ·rw [if_pos c4] at H
  have c4b0 : decide ((l0.length : Int) ≤ a1) = true := decide_eq_true c4
  clear c4
  obtain rfl := Option.some.inj H
  go_enter Try.func8, Try.ntmps8
  go_wp2
  go_ret
  exact ⟨by first | rfl | (simp; done) | (simp [*]; done), by repeat (first | exact Drawn0.refl _ | apply Drawn0.step)⟩
 ·rw [if_neg c4] at H
  have c4b0 : decide ((l0.length : Int) ≤ a1) = false := decide_eq_false c4
  clear c4
  by_cases c5 : a2 < 1
  ·rw [if_pos c5] at H
   have c5b0 : decide (a2 < 1) = true := decide_eq_true c5
   clear c5
   obtain rfl := Option.some.inj H
   go_enter Try.func8, Try.ntmps8
   go_wp2
   go_ret
   exact ⟨by first | rfl | (simp; done) | (simp [*]; done), by repeat (first | exact Drawn0.refl _ | apply Drawn0.step)⟩
  ·rw [if_neg c5] at H
   have c5b0 : decide (a2 < 1) = false := decide_eq_false c5
   clear c5
   by_cases c6 : 0 ≤ a1
   ·rw [if_pos c6] at H
    have c6b0 : decide (0 ≤ a1) = true := decide_eq_true c6
    clear c6
    by_cases c7 : a1 < (l0.length : Int)
    ·rw [if_pos c7] at H
     have c7b0 : decide (a1 < (l0.length : Int)) = true := decide_eq_true c7
     clear c7
     by_cases c8 : a2 = 0
     ·rw [if_pos c8] at H
      exact absurd H (by simp)
     ·rw [if_neg c8] at H
      have c8b0 : (a2 == 0) = false := beq_eq_false_iff_ne.mpr c8
      have c8b1 : (a2 != 0) = true := bne_iff_ne.mpr c8
      obtain rfl := Option.some.inj H
      have p191 : 0 ≤ (a1 : Int) := od
      have q191 : a1 < (l0.length : Int) := od
      obtain ⟨ad191, e191, hx191_0⟩ := Kd.at_int HR0.out a1 p191 q191
      cases e191
      replace p191 := eq_true p191
      replace q191 := eq_true q191
      go_enter Try.func8, Try.ntmps8
      go_wp2
      go_ret
      exact ⟨by first | rfl | (simp; done) | (simp [*]; done), by repeat (first | exact Drawn0.refl _ | apply Drawn0.step)⟩
    ·rw [if_neg c7] at H
     exact absurd H (by simp)
   ·rw [if_neg c6] at H
    exact absurd H (by simp)
def qdH.f (l0 : List (S31)) (a1_0 : Int) (a1_1 : Int) (a2 : Int) : Option ((List (S31)) × (List (S31)) × Int) := if l0.length ≤ 1048576 then some ((qg4 (qfF l0) ⟨a1_0, a1_1⟩ a2).1.map toS, (qg4 (qfF l0) ⟨a1_0, a1_1⟩ a2).2.1.map toS, (qg4 (qfF l0) ⟨a1_0, a1_1⟩ a2).2.2) else none
theorem qdH.calls (A0 : Option Addr) (c0 : Nat) (l0 : List (S31)) (a1_0 : Int) (a1_1 : Int) (a2 : Int) (r1 : List (S31)) (r2 : List (S31)) (r3 : Int) (w : World) (hr0 : Kd.C k31 w A0 l0.length l0) (hc0 : l0.length ≤ c0) (h : qdH.f l0 a1_0 a1_1 a2 = some (r1, r2, r3)) :
  Calls Try.prog 9 #[.slice A0 l0.length c0, .agg #[.int .i64 a1_0, .int .i64 a1_1], .int .i64 a2] w fun e w' => ∃ v0_ v1_ : Value, e = .returned (.tuple #[v0_, v1_, .int .i64 r3]) ∧ Kd.R k31 31 w' w.heap.size (fun k_ => some k_ ≠ (v1_ : Value).ownBlock) v0_ r1 ∧ Kd.R k31 31 w' w.heap.size (fun k_ => some k_ ≠ (v0_ : Value).ownBlock) v1_ r2 ∧ Below w.heap.size w w' := by
 unfold qdH.f at h
 by_cases hn : l0.length ≤ 1048576
 ·rw [if_pos hn] at h
  simp only [Option.some.injEq, Prod.mk.injEq] at h
  obtain ⟨rfl, rfl, rfl⟩ := h
  obtain ⟨pl, rfl, hl_, rfl, hR⟩ := rd_of_C hr0 hc0
  rw [← hl_]
  refine (rootsIn_ w pl (qfF l0) a1_0 a1_1 a2 hR (by rw [qe7]; exact hn)).mono ?_
  rintro e w' ⟨v0, v1, rfl, h0, h1, hd, hb⟩
  exact ⟨v0, v1, rfl, R_map h0 (fun k hk e => hd k hk e.symm), R_map h1 (fun k hk e => hd k e.symm hk), hb⟩
 ·rw [if_neg hn] at h
  cases h
def qbN.f (a0_0 : Int) (a0_1 : Int) (a1 : Int) : Option (Bool) := some (Go.G880.qbN ⟨a0_0, a0_1⟩ a1)
theorem qbN.calls (a0_0 : Int) (a0_1 : Int) (a1 : Int) (r : Bool) (w : World) (h : qbN.f a0_0 a0_1 a1 = some r) :
  Calls Try.prog 10 #[.agg #[.int .i64 a0_0, .int .i64 a0_1], .int .i64 a1] w fun e w' => e = .returned (.bool r) ∧ Below w.heap.size w w' := by
 obtain rfl := Option.some.inj h
 exact (qbN.gives ⟨a0_0, a0_1⟩ a1).calls rfl rfl w
def qaH.f (l0 : List (S31)) (a1_0 : Int) (a1_1 : Int) : Option (Int × Int) := if l0.length ≤ 1048576 then some ((Go.G880.qaH (qfF l0) ⟨a1_0, a1_1⟩).lo, (Go.G880.qaH (qfF l0) ⟨a1_0, a1_1⟩).hi) else none
theorem qaH.calls (A0 : Option Addr) (c0 : Nat) (l0 : List (S31)) (a1_0 : Int) (a1_1 : Int) (r1 : Int) (r2 : Int) (w : World) (hr0 : Kd.C k31 w A0 l0.length l0) (hc0 : l0.length ≤ c0) (h : qaH.f l0 a1_0 a1_1 = some (r1, r2)) :
  Calls Try.prog 11 #[.slice A0 l0.length c0, .agg #[.int .i64 a1_0, .int .i64 a1_1]] w fun e w' => e = .returned (.agg #[.int .i64 r1, .int .i64 r2]) ∧ Below w.heap.size w w' := by
 unfold qaH.f at h
 by_cases hn : l0.length ≤ 1048576
 ·rw [if_pos hn] at h
  simp only [Option.some.injEq, Prod.mk.injEq] at h
  obtain ⟨rfl, rfl⟩ := h
  obtain ⟨pl, rfl, hl_, rfl, hR⟩ := rd_of_C hr0 hc0
  rw [← hl_]
  exact read2 (qaH.gives (qfF l0) ⟨a1_0, a1_1⟩ (decide_eq_true (by rw [qe7]; omega))) rfl hR
 ·rw [if_neg hn] at h
  cases h
def qaJ.f (l0 : List (S31)) (a1_0 : Int) (a1_1 : Int) (a2 : Int) : Option (Int × Int × Int) := if l0.length ≤ 1048576 then some ((Go.G880.qaJ (qfF l0) ⟨a1_0, a1_1⟩ a2).1.lo, (Go.G880.qaJ (qfF l0) ⟨a1_0, a1_1⟩ a2).1.hi, (Go.G880.qaJ (qfF l0) ⟨a1_0, a1_1⟩ a2).2) else none
theorem qaJ.calls (A0 : Option Addr) (c0 : Nat) (l0 : List (S31)) (a1_0 : Int) (a1_1 : Int) (a2 : Int) (r1 : Int) (r2 : Int) (r3 : Int) (w : World) (hr0 : Kd.C k31 w A0 l0.length l0) (hc0 : l0.length ≤ c0) (h : qaJ.f l0 a1_0 a1_1 a2 = some (r1, r2, r3)) :
  Calls Try.prog 13 #[.slice A0 l0.length c0, .agg #[.int .i64 a1_0, .int .i64 a1_1], .int .i64 a2] w fun e w' => e = .returned (.tuple #[.agg #[.int .i64 r1, .int .i64 r2], .int .i64 r3]) ∧ Below w.heap.size w w' := by
 unfold qaJ.f at h
 by_cases hn : l0.length ≤ 1048576
 ·rw [if_pos hn] at h
  simp only [Option.some.injEq, Prod.mk.injEq] at h
  obtain ⟨rfl, rfl, rfl⟩ := h
  obtain ⟨pl, rfl, hl_, rfl, hR⟩ := rd_of_C hr0 hc0
  rw [← hl_]
  exact Go.RX.qeO.calls (xs := [.slice pl.ha pl.hl pl.hc, .agg #[.int .i64 a1_0, .int .i64 a1_1], .int .i64 a2]) (qaJ.gives (qfF l0) ⟨a1_0, a1_1⟩ a2 (decide_eq_true (by rw [qe7]; omega))) rfl (Go.RX.Ready.l hR hR.low (Go.RX.Ready.v rfl (Go.RX.Ready.v rfl (Go.RX.Ready.nil w))))
 ·rw [if_neg hn] at h
  cases h
def qaG.f (l0 : List (S31)) (a1_0 : Int) (a1_1 : Int) (a2 : Int) : Option (Int × Int × Int) := if l0.length ≤ 1048576 then some ((Go.G880.qaG (qfF l0) ⟨a1_0, a1_1⟩ a2).1.lo, (Go.G880.qaG (qfF l0) ⟨a1_0, a1_1⟩ a2).1.hi, (Go.G880.qaG (qfF l0) ⟨a1_0, a1_1⟩ a2).2) else none
theorem qaG.calls (A0 : Option Addr) (c0 : Nat) (l0 : List (S31)) (a1_0 : Int) (a1_1 : Int) (a2 : Int) (r1 : Int) (r2 : Int) (r3 : Int) (w : World) (hr0 : Kd.C k31 w A0 l0.length l0) (hc0 : l0.length ≤ c0) (h : qaG.f l0 a1_0 a1_1 a2 = some (r1, r2, r3)) :
  Calls Try.prog 14 #[.slice A0 l0.length c0, .agg #[.int .i64 a1_0, .int .i64 a1_1], .int .i64 a2] w fun e w' => e = .returned (.tuple #[.agg #[.int .i64 r1, .int .i64 r2], .int .i64 r3]) ∧ Below w.heap.size w w' := by
 unfold qaG.f at h
 by_cases hn : l0.length ≤ 1048576
 ·rw [if_pos hn] at h
  simp only [Option.some.injEq, Prod.mk.injEq] at h
  obtain ⟨rfl, rfl, rfl⟩ := h
  obtain ⟨pl, rfl, hl_, rfl, hR⟩ := rd_of_C hr0 hc0
  rw [← hl_]
  exact Go.RX.qeO.calls (xs := [.slice pl.ha pl.hl pl.hc, .agg #[.int .i64 a1_0, .int .i64 a1_1], .int .i64 a2]) (qaG.gives (qfF l0) ⟨a1_0, a1_1⟩ a2 (decide_eq_true (by rw [qe7]; omega))) rfl (Go.RX.Ready.l hR hR.low (Go.RX.Ready.v rfl (Go.RX.Ready.v rfl (Go.RX.Ready.nil w))))
 ·rw [if_neg hn] at h
  cases h
def qbG.f (a0_0 : Int) (a0_1 : Int) : Option (Bool) := some (Go.G880.qbG ⟨a0_0, a0_1⟩)
theorem qbG.calls (a0_0 : Int) (a0_1 : Int) (r : Bool) (w : World) (h : qbG.f a0_0 a0_1 = some r) :
  Calls Try.prog 15 #[.agg #[.int .i64 a0_0, .int .i64 a0_1]] w fun e w' => e = .returned (.bool r) ∧ Below w.heap.size w w' := by
 obtain rfl := Option.some.inj h
 exact (qbG.gives ⟨a0_0, a0_1⟩).calls rfl rfl w
def qbM.f (a0_0 : Int) (a0_1 : Int) (a1_0 : Int) (a1_1 : Int) : Option (Bool) := some (Go.G880.qbM ⟨a0_0, a0_1⟩ ⟨a1_0, a1_1⟩)
theorem qbM.calls (a0_0 : Int) (a0_1 : Int) (a1_0 : Int) (a1_1 : Int) (r : Bool) (w : World) (h : qbM.f a0_0 a0_1 a1_0 a1_1 = some r) :
  Calls Try.prog 16 #[.agg #[.int .i64 a0_0, .int .i64 a0_1], .agg #[.int .i64 a1_0, .int .i64 a1_1]] w fun e w' => e = .returned (.bool r) ∧ Below w.heap.size w w' := by
 obtain rfl := Option.some.inj h
 exact (qbM.gives ⟨a0_0, a0_1⟩ ⟨a1_0, a1_1⟩).calls rfl rfl w
def qaT.f (l0 : List (S31)) (a1_0 : Int) (a1_1 : Int) : Option (Bool) := if l0.length ≤ 1048576 then some (Go.G880.qaT (qfF l0) ⟨a1_0, a1_1⟩) else none
theorem qaT.calls (A0 : Option Addr) (c0 : Nat) (l0 : List (S31)) (a1_0 : Int) (a1_1 : Int) (r : Bool) (w : World) (hr0 : Kd.C k31 w A0 l0.length l0) (hc0 : l0.length ≤ c0) (h : qaT.f l0 a1_0 a1_1 = some r) :
  Calls Try.prog 17 #[.slice A0 l0.length c0, .agg #[.int .i64 a1_0, .int .i64 a1_1]] w fun e w' => e = .returned (.bool r) ∧ Below w.heap.size w w' := by
 unfold qaT.f at h
 by_cases hn : l0.length ≤ 1048576
 ·rw [if_pos hn] at h
  obtain rfl := Option.some.inj h
  obtain ⟨pl, rfl, hl_, rfl, hR⟩ := rd_of_C hr0 hc0
  rw [← hl_]
  exact read2 (qaT.gives (qfF l0) ⟨a1_0, a1_1⟩ (decide_eq_true (by rw [qe7]; omega))) rfl hR
 ·rw [if_neg hn] at h
  cases h
end Go.Proofs.Ytogpbandlpjccaa.TX
