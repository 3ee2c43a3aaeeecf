/- The machine walks these functions as the plain functions say; written by a program of this session out of the translation, with contracts of some functions of our own. -/
import Derived.Test.YtogpbandlpjccaaGreatDoorN3
import Derived.Test.YtogpbandlpjccaaGreatDoorNV
namespace Go.Proofs.YtogpbandlpjccaaGreatDoor.TX
open Go.RowKit Go.Proofs.YtogpbandlpjccaaGreatDoorW.PrintWords Go.Proofs.YtogpbandlpjccaaGreatDoorW.PrintLast Go.Proofs.YtogpbandlpjccaaGreatDoorW.PrintMore
attribute [local go_sem] max2_int min2_int max_two min_two max_three min_three max_four min_four   -- for this text's walks alone
set_option linter.unusedVariables false
set_option linter.unusedSimpArgs false
def strings_Cut.f (a0 : ByteArray) (a1 : ByteArray) : Option (ByteArray × ByteArray × Bool) := if a0.size < 4294967281 then some (⟨(Lib.cut a0.data.toList a1.data.toList).1.toArray⟩, ⟨(Lib.cut a0.data.toList a1.data.toList).2.1.toArray⟩, (Lib.cut a0.data.toList a1.data.toList).2.2) else none
theorem strings_Cut.calls {b_ : Bool} (a0 : ByteArray) (a1 : ByteArray) (r1 : ByteArray) (r2 : ByteArray) (r3 : Bool) (w : World) (hO_ : Ok_ b_ w) (h : strings_Cut.f a0 a1 = some (r1, r2, r3)) :
    Calls Tryz.prog 74 #[.string a0, .string a1] w fun e w' => e = .returned (.tuple #[.string r1, .string r2, .bool r3]) ∧ Below w.heap.size w w' := by
  unfold strings_Cut.f at h
  by_cases h2 : a0.size < 4294967281
  · rw [if_pos h2] at h
    simp only [Option.some.injEq, Prod.mk.injEq] at h
    obtain ⟨rfl, rfl, rfl⟩ := h
    exact cut_ a0 a1 h2 w hO_
  · rw [if_neg h2] at h; cases h
def impl_readDigits.f (a0 : ByteArray) : Option (Int × Int × Bool) := if a0.size < 4294967281 then some (readDig a0.data.toList) else none
theorem impl_readDigits.calls {b_ : Bool} (a0 : ByteArray) (r1 : Int) (r2 : Int) (r3 : Bool) (w : World) (hO_ : Ok_ b_ w) (h : impl_readDigits.f a0 = some (r1, r2, r3)) :
    Calls Tryz.prog 138 #[.string a0] w fun e w' => e = .returned (.tuple #[.int .i64 r1, .int .i64 r2, .bool r3]) ∧ Below w.heap.size w w' := by
  unfold impl_readDigits.f at h
  by_cases h2 : a0.size < 4294967281
  · rw [if_pos h2] at h
    have h3 := Option.some.inj h
    have := readDigits_ a0.data.toList (by rw [Array.length_toList]; exact h2) w hO_
    rw [bs_toList, h3] at this
    exact this
  · rw [if_neg h2] at h; cases h
def impl_readDegrees.f (a0 : ByteArray) : Option (Int × Bool) := (impl_readDigits.f a0).bind fun bt173 => (if bt173.2.2 = true then (if bt173.2.1 = 7 then (some (bt173.1, true)) else (some (0, false))) else (some (0, false)))
set_option maxHeartbeats 8000000 in
set_option maxRecDepth 100000 in
theorem impl_readDegrees.calls {b_ : Bool} (a0 : ByteArray) (r1 : Int) (r2 : Bool) (w : World) (hO_ : Ok_ b_ w) (h : impl_readDegrees.f a0 = some (r1, r2)) :
    Calls Tryz.prog 75 #[.string a0] w fun e w' => e = .returned (.tuple #[.int .i64 r1, .bool r2]) ∧ Below w.heap.size w w' := by
  have HB := Aside0.mk (Below.refl w.heap.size w)
  have H : ((impl_readDigits.f a0).bind fun bt173 => (if bt173.2.2 = true then (if bt173.2.1 = 7 then (some (bt173.1, true)) else (some (0, false))) else (some (0, false)))) = some (r1, r2) := h
  clear h
  replace H := Option.bind_eq_some_iff.mp H
  obtain ⟨⟨t173, t174, t175⟩, A20, H⟩ := H
  replace H : (if t175 = true then (if t174 = 7 then (some (t173, true)) else (some (0, false))) else (some (0, false))) = some (r1, r2) := H
  have A2 := Aside0.mk A20
  clear A20
  by_cases c3 : t175 = true
  · subst c3
    have H1 : (if t174 = 7 then (some (t173, true)) else (some (0, false))) = some (r1, r2) := by rw [if_pos rfl] at H; exact H
    clear H
    have H := H1
    clear H1
    by_cases c4 : t174 = 7
    · rw [if_pos c4] at H
      have c4b0 : (t174 == 7) = true := beq_iff_eq.mpr c4
      have c4b1 : (t174 != 7) = false := bne_eq_false_iff_eq.mpr c4
      clear c4
      simp only [Option.some.injEq, Prod.mk.injEq] at H
      obtain ⟨rfl, rfl⟩ := H
      go_enter Tryz.func75, Tryz.ntmps75
      go_wp2_with (first | ((with_reducible refine gate_callee (f := 138) rfl ?_); refine goesL_ (some 9) rfl rfl Tryz.func138 (by kernel_rfl) rfl #[.string a0] rfl (by (try simp only [List.map_toArray, List.map_cons, List.map_nil]); first | done | rfl | (simp only [List.length_drop, List.length_take]; rfl)) ?_; (with_reducible refine (impl_readDigits.calls a0 t173 t174 true _ (okd_ hO_ (b0 HB.out)) A2.out).mono ?_); rintro e w5 ⟨rfl, hb⟩; refine ⟨_, rfl, ?_⟩; replace HB := Aside0.mk (below_step (b0 HB.out) hb); (try clear hb); (try clear hb2); (try clear hk); (try clear hi)))
      go_ret2
      exact ⟨by first | rfl | (simp [errW_none, errW_some] <;> rfl) | (simp [*, errW_none, errW_some] <;> rfl), b0 HB.out⟩
    · rw [if_neg c4] at H
      have c4b0 : (t174 == 7) = false := beq_eq_false_iff_ne.mpr c4
      have c4b1 : (t174 != 7) = true := bne_iff_ne.mpr c4
      simp only [Option.some.injEq, Prod.mk.injEq] at H
      obtain ⟨rfl, rfl⟩ := H
      go_enter Tryz.func75, Tryz.ntmps75
      go_wp2_with (first | ((with_reducible refine gate_callee (f := 138) rfl ?_); refine goesL_ (some 9) rfl rfl Tryz.func138 (by kernel_rfl) rfl #[.string a0] rfl (by (try simp only [List.map_toArray, List.map_cons, List.map_nil]); first | done | rfl | (simp only [List.length_drop, List.length_take]; rfl)) ?_; (with_reducible refine (impl_readDigits.calls a0 t173 t174 true _ (okd_ hO_ (b0 HB.out)) A2.out).mono ?_); rintro e w6 ⟨rfl, hb⟩; refine ⟨_, rfl, ?_⟩; replace HB := Aside0.mk (below_step (b0 HB.out) hb); (try clear hb); (try clear hb2); (try clear hk); (try clear hi)))
      go_ret2
      exact ⟨by first | rfl | (simp [errW_none, errW_some] <;> rfl) | (simp [*, errW_none, errW_some] <;> rfl), b0 HB.out⟩
  · replace c3 := Bool.eq_false_iff.mpr c3
    subst c3
    have H1 : (some (0, false)) = some (r1, r2) := by rw [if_neg (show ¬ (false = true) by decide)] at H; exact H
    clear H
    have H := H1
    clear H1
    simp only [Option.some.injEq, Prod.mk.injEq] at H
    obtain ⟨rfl, rfl⟩ := H
    go_enter Tryz.func75, Tryz.ntmps75
    go_wp2_with (first | ((with_reducible refine gate_callee (f := 138) rfl ?_); refine goesL_ (some 9) rfl rfl Tryz.func138 (by kernel_rfl) rfl #[.string a0] rfl (by (try simp only [List.map_toArray, List.map_cons, List.map_nil]); first | done | rfl | (simp only [List.length_drop, List.length_take]; rfl)) ?_; (with_reducible refine (impl_readDigits.calls a0 t173 t174 false _ (okd_ hO_ (b0 HB.out)) A2.out).mono ?_); rintro e w7 ⟨rfl, hb⟩; refine ⟨_, rfl, ?_⟩; replace HB := Aside0.mk (below_step (b0 HB.out) hb); (try clear hb); (try clear hb2); (try clear hk); (try clear hi)))
    go_ret2
    exact ⟨by first | rfl | (simp [errW_none, errW_some] <;> rfl) | (simp [*, errW_none, errW_some] <;> rfl), b0 HB.out⟩
def impl_ReadPoint.f (a0 : ByteArray) : Option (Int × Int × Bool) := (strings_Cut.f a0 (⟨#[32]⟩ : ByteArray)).bind fun bt177 => ((impl_readDegrees.f bt177.1).bind fun bt180 => ((impl_readDegrees.f bt177.2.1).bind fun bt182 => (if bt180.2 = true then (if bt182.2 = true then ((impl_ValidPoint.f bt180.1 bt182.1).bind fun t185 => (if t185 = true then (some (bt180.1, bt182.1, true)) else (some (0, 0, false)))) else (some (0, 0, false))) else (some (0, 0, false)))))
set_option maxHeartbeats 8000000 in
set_option maxRecDepth 100000 in
theorem impl_ReadPoint.calls {b_ : Bool} (a0 : ByteArray) (r1 : Int) (r2 : Int) (r3 : Bool) (w : World) (hO_ : Ok_ b_ w) (h : impl_ReadPoint.f a0 = some (r1, r2, r3)) :
    Calls Tryz.prog 22 #[.string a0] w fun e w' => e = .returned (.tuple #[.agg #[.int .i64 r1, .int .i64 r2], .bool r3]) ∧ Below w.heap.size w w' := by
  have hu28 := Tryz.underlying28
  have HB := Aside0.mk (Below.refl w.heap.size w)
  have H : ((strings_Cut.f a0 (⟨#[32]⟩ : ByteArray)).bind fun bt177 => ((impl_readDegrees.f bt177.1).bind fun bt180 => ((impl_readDegrees.f bt177.2.1).bind fun bt182 => (if bt180.2 = true then (if bt182.2 = true then ((impl_ValidPoint.f bt180.1 bt182.1).bind fun t185 => (if t185 = true then (some (bt180.1, bt182.1, true)) else (some (0, 0, false)))) else (some (0, 0, false))) else (some (0, 0, false)))))) = some (r1, r2, r3) := h
  clear h
  replace H := Option.bind_eq_some_iff.mp H
  obtain ⟨⟨t177, t178, t179⟩, A20, H⟩ := H
  replace H : ((impl_readDegrees.f t177).bind fun bt180 => ((impl_readDegrees.f t178).bind fun bt182 => (if bt180.2 = true then (if bt182.2 = true then ((impl_ValidPoint.f bt180.1 bt182.1).bind fun t185 => (if t185 = true then (some (bt180.1, bt182.1, true)) else (some (0, 0, false)))) else (some (0, 0, false))) else (some (0, 0, false))))) = some (r1, r2, r3) := H
  have A2 := Aside0.mk A20
  clear A20
  replace H := Option.bind_eq_some_iff.mp H
  obtain ⟨⟨t180, t181⟩, A30, H⟩ := H
  replace H : ((impl_readDegrees.f t178).bind fun bt182 => (if t181 = true then (if bt182.2 = true then ((impl_ValidPoint.f t180 bt182.1).bind fun t185 => (if t185 = true then (some (t180, bt182.1, true)) else (some (0, 0, false)))) else (some (0, 0, false))) else (some (0, 0, false)))) = some (r1, r2, r3) := H
  have A3 := Aside0.mk A30
  clear A30
  replace H := Option.bind_eq_some_iff.mp H
  obtain ⟨⟨t182, t183⟩, A40, H⟩ := H
  replace H : (if t181 = true then (if t183 = true then ((impl_ValidPoint.f t180 t182).bind fun t185 => (if t185 = true then (some (t180, t182, true)) else (some (0, 0, false)))) else (some (0, 0, false))) else (some (0, 0, false))) = some (r1, r2, r3) := H
  have A4 := Aside0.mk A40
  clear A40
  by_cases c5 : t181 = true
  · subst c5
    have H1 : (if t183 = true then ((impl_ValidPoint.f t180 t182).bind fun t185 => (if t185 = true then (some (t180, t182, true)) else (some (0, 0, false)))) else (some (0, 0, false))) = some (r1, r2, r3) := by rw [if_pos rfl] at H; exact H
    clear H
    have H := H1
    clear H1
    by_cases c6 : t183 = true
    · subst c6
      have H1 : ((impl_ValidPoint.f t180 t182).bind fun t185 => (if t185 = true then (some (t180, t182, true)) else (some (0, 0, false)))) = some (r1, r2, r3) := by rw [if_pos rfl] at H; exact H
      clear H
      have H := H1
      clear H1
      replace H := Option.bind_eq_some_iff.mp H
      obtain ⟨t185, A70, H⟩ := H
      replace H : (if t185 = true then (some (t180, t182, true)) else (some (0, 0, false))) = some (r1, r2, r3) := H
      have A7 := Aside0.mk A70
      clear A70
      by_cases c8 : t185 = true
      · subst c8
        have H1 : (some (t180, t182, true)) = some (r1, r2, r3) := by rw [if_pos rfl] at H; exact H
        clear H
        have H := H1
        clear H1
        simp only [Option.some.injEq, Prod.mk.injEq] at H
        obtain ⟨rfl, rfl, rfl⟩ := H
        go_enter Tryz.func22, Tryz.ntmps22
        go_wp2_with (first | ((with_reducible refine gate_dst (N := 2) rfl ?_); refine box_event ?hg (N := 2) ?hd (cs := #[.int .i64 0, .int .i64 0]) (t := 28) ?hr ?_; (case hd => rfl); (case hg => rfl); (case hr => first | (go_simp; done) | (go_simp; rfl)); intro gb176 hg w9 hbox hb; have BK176 := Aside0.mk (hbox); have GW176 := Aside0.mk ((by rw [hg]; exact (below_size (b0 HB.out)) : w.heap.size ≤ gb176)); have GE176 := Aside0.mk ((by rw [hg]; exact (below_size (b0 HB.out)) : w.heap.size ≤ gb176)); replace HB := Aside0.mk (below_step (b0 HB.out) hb); clear hb hbox hg) | ((with_reducible refine gate_callee (f := 74) rfl ?_); refine goesL_ (some 14) rfl rfl Tryz.func74 (by kernel_rfl) rfl #[.string a0, .string (⟨#[32]⟩ : ByteArray)] rfl (by (try simp only [List.map_toArray, List.map_cons, List.map_nil]); first | done | rfl | (simp only [List.length_drop, List.length_take]; rfl)) ?_; (with_reducible refine (strings_Cut.calls a0 (⟨#[32]⟩ : ByteArray) t177 t178 t179 _ (okd_ hO_ (bq HB.out (.c GE176.out .n))) A2.out).mono ?_); rintro e w10 ⟨rfl, hb⟩; refine ⟨_, rfl, ?_⟩; replace BK176 := Aside0.mk (blk_below (h0 BK176.out) hb); replace HB := Aside0.mk (below_step (bq HB.out (.c GE176.out .n)) hb); (try clear hb); (try clear hb2); (try clear hk); (try clear hi)) | ((with_reducible refine gate_callee (f := 75) rfl ?_); refine goesL_ (some 20) rfl rfl Tryz.func75 (by kernel_rfl) rfl #[.string t177] rfl (by (try simp only [List.map_toArray, List.map_cons, List.map_nil]); first | done | rfl | (simp only [List.length_drop, List.length_take]; rfl)) ?_; (with_reducible refine (impl_readDegrees.calls t177 t180 true _ (okd_ hO_ (bq HB.out (.c GE176.out .n))) A3.out).mono ?_); rintro e w11 ⟨rfl, hb⟩; refine ⟨_, rfl, ?_⟩; replace BK176 := Aside0.mk (blk_below (h0 BK176.out) hb); replace HB := Aside0.mk (below_step (bq HB.out (.c GE176.out .n)) hb); (try clear hb); (try clear hb2); (try clear hk); (try clear hi)) | ((with_reducible refine gate_callee (f := 75) rfl ?_); refine goesL_ (some 25) rfl rfl Tryz.func75 (by kernel_rfl) rfl #[.string t178] rfl (by (try simp only [List.map_toArray, List.map_cons, List.map_nil]); first | done | rfl | (simp only [List.length_drop, List.length_take]; rfl)) ?_; (with_reducible refine (impl_readDegrees.calls t178 t182 true _ (okd_ hO_ (bq HB.out (.c GE176.out .n))) A4.out).mono ?_); rintro e w12 ⟨rfl, hb⟩; refine ⟨_, rfl, ?_⟩; replace BK176 := Aside0.mk (blk_below (h0 BK176.out) hb); replace HB := Aside0.mk (below_step (bq HB.out (.c GE176.out .n)) hb); (try clear hb); (try clear hb2); (try clear hk); (try clear hi)) | ((with_reducible refine gate_dst (N := 11) rfl ?_); refine box_event ?hg (N := 11) ?hd (cs := #[.int .i64 0, .int .i64 0]) (t := 28) ?hr ?_; (case hd => rfl); (case hg => rfl); (case hr => first | (go_simp; done) | (go_simp; rfl)); intro gb184 hg w13 hbox hb; have BK184 := Aside0.mk (hbox); have GW184 := Aside0.mk ((by rw [hg]; exact (below_size (bq HB.out (.c GE176.out .n))) : w.heap.size ≤ gb184)); have GE184 := Aside0.mk ((by rw [hg]; exact (below_size (bq HB.out (.c GE176.out .n))) : w.heap.size ≤ gb184)); replace HB := Aside0.mk (below_step (bq HB.out (.c GE176.out .n)) hb); have NB176_184 := Aside0.mk ((by rw [hg]; exact Nat.ne_of_lt (blk_lt (g := gb176) (o := .cells #[.int .i64 0, .int .i64 0] 28 (0, 0)) (h0 BK176.out)) : gb176 ≠ gb184)); have NB184_176 := Aside0.mk ((by rw [hg]; exact Nat.ne_of_gt (blk_lt (g := gb176) (o := .cells #[.int .i64 0, .int .i64 0] 28 (0, 0)) (h0 BK176.out)) : gb184 ≠ gb176)); replace BK176 := Aside0.mk (blk_below (h0 BK176.out) hb); clear hb hbox hg; have hnb14 := NB184_176.out; have hnc14 := NB176_184.out; have hcz15_0 : w13.cell? ⟨gb184, 0, none⟩ = some (.int .i64 0) := (blk_cell BK184.out 0).trans rfl; have hcz15_1 : w13.cell? ⟨gb184, 1, none⟩ = some (.int .i64 0) := (blk_cell BK184.out 1).trans rfl; have hfz15_0 := blk_frozen BK184.out 0; have hfz15_1 := blk_frozen BK184.out 1) | (go_at_call 76; (with_reducible refine (impl_ValidPoint.calls t180 t182 true _ A7.out).mono ?_); rintro e w16 ⟨rfl, hb⟩; replace BK176 := Aside0.mk (blk_below (g := gb176) (o := .cells #[.int .i64 0, .int .i64 0] 28 (0, 0)) (hq BK176.out (.c NB176_184.out .n)) hb); replace BK184 := Aside0.mk (blk_below (g := gb184) (o := .cells #[.int .i64 t180, .int .i64 t182] 28 (0, 0)) (by refine hp ?_; refine blk_put (cs := #[.int .i64 t180, .int .i64 0]) ?_ 1 _ rfl; refine hp ?_; refine blk_put (cs := #[.int .i64 0, .int .i64 0]) ?_ 0 _ rfl; exact h0 BK184.out) hb); replace HB := Aside0.mk (below_step (bq HB.out (.c GE176.out (.c GE184.out .n))) hb); (try clear hb); (try clear hb2); (try clear hk); (try clear hi); have hcz17_0 : w16.cell? ⟨gb184, 0, none⟩ = some (.int .i64 t180) := (blk_cell BK184.out 0).trans rfl; have hcz17_1 : w16.cell? ⟨gb184, 1, none⟩ = some (.int .i64 t182) := (blk_cell BK184.out 1).trans rfl; have hfz17_0 := blk_frozen BK184.out 0; have hfz17_1 := blk_frozen BK184.out 1; have hcz18_0 : w16.cell? ⟨gb176, 0, none⟩ = some (.int .i64 0) := (blk_cell BK176.out 0).trans rfl; have hcz18_1 : w16.cell? ⟨gb176, 1, none⟩ = some (.int .i64 0) := (blk_cell BK176.out 1).trans rfl; have hfz18_0 := blk_frozen BK176.out 0; have hfz18_1 := blk_frozen BK176.out 1))
        refine bodyPost_ret (results_ct rfl _ _ gb176 28 #[.int .i64 t180, .int .i64 t182] (0, 0) _ rfl (by refine hp ?_; refine blk_put (cs := #[.int .i64 t180, .int .i64 0]) ?_ 1 _ rfl; refine hp ?_; refine blk_put (cs := #[.int .i64 0, .int .i64 0]) ?_ 0 _ rfl; exact h0 BK176.out) Tryz.underlying28 rfl (by kernel_rfl)) rfl ?_
        exact ⟨by first | rfl | (simp [errW_none, errW_some] <;> rfl) | (simp [*, errW_none, errW_some] <;> rfl), bq HB.out (.c GE176.out (.c GE184.out .n))⟩
      · replace c8 := Bool.eq_false_iff.mpr c8
        subst c8
        have H1 : (some (0, 0, false)) = some (r1, r2, r3) := by rw [if_neg (show ¬ (false = true) by decide)] at H; exact H
        clear H
        have H := H1
        clear H1
        simp only [Option.some.injEq, Prod.mk.injEq] at H
        obtain ⟨rfl, rfl, rfl⟩ := H
        go_enter Tryz.func22, Tryz.ntmps22
        go_wp2_with (first | ((with_reducible refine gate_dst (N := 2) rfl ?_); refine box_event ?hg (N := 2) ?hd (cs := #[.int .i64 0, .int .i64 0]) (t := 28) ?hr ?_; (case hd => rfl); (case hg => rfl); (case hr => first | (go_simp; done) | (go_simp; rfl)); intro gb176 hg w19 hbox hb; have BK176 := Aside0.mk (hbox); have GW176 := Aside0.mk ((by rw [hg]; exact (below_size (b0 HB.out)) : w.heap.size ≤ gb176)); have GE176 := Aside0.mk ((by rw [hg]; exact (below_size (b0 HB.out)) : w.heap.size ≤ gb176)); replace HB := Aside0.mk (below_step (b0 HB.out) hb); clear hb hbox hg) | ((with_reducible refine gate_callee (f := 74) rfl ?_); refine goesL_ (some 14) rfl rfl Tryz.func74 (by kernel_rfl) rfl #[.string a0, .string (⟨#[32]⟩ : ByteArray)] rfl (by (try simp only [List.map_toArray, List.map_cons, List.map_nil]); first | done | rfl | (simp only [List.length_drop, List.length_take]; rfl)) ?_; (with_reducible refine (strings_Cut.calls a0 (⟨#[32]⟩ : ByteArray) t177 t178 t179 _ (okd_ hO_ (bq HB.out (.c GE176.out .n))) A2.out).mono ?_); rintro e w20 ⟨rfl, hb⟩; refine ⟨_, rfl, ?_⟩; replace BK176 := Aside0.mk (blk_below (h0 BK176.out) hb); replace HB := Aside0.mk (below_step (bq HB.out (.c GE176.out .n)) hb); (try clear hb); (try clear hb2); (try clear hk); (try clear hi)) | ((with_reducible refine gate_callee (f := 75) rfl ?_); refine goesL_ (some 20) rfl rfl Tryz.func75 (by kernel_rfl) rfl #[.string t177] rfl (by (try simp only [List.map_toArray, List.map_cons, List.map_nil]); first | done | rfl | (simp only [List.length_drop, List.length_take]; rfl)) ?_; (with_reducible refine (impl_readDegrees.calls t177 t180 true _ (okd_ hO_ (bq HB.out (.c GE176.out .n))) A3.out).mono ?_); rintro e w21 ⟨rfl, hb⟩; refine ⟨_, rfl, ?_⟩; replace BK176 := Aside0.mk (blk_below (h0 BK176.out) hb); replace HB := Aside0.mk (below_step (bq HB.out (.c GE176.out .n)) hb); (try clear hb); (try clear hb2); (try clear hk); (try clear hi)) | ((with_reducible refine gate_callee (f := 75) rfl ?_); refine goesL_ (some 25) rfl rfl Tryz.func75 (by kernel_rfl) rfl #[.string t178] rfl (by (try simp only [List.map_toArray, List.map_cons, List.map_nil]); first | done | rfl | (simp only [List.length_drop, List.length_take]; rfl)) ?_; (with_reducible refine (impl_readDegrees.calls t178 t182 true _ (okd_ hO_ (bq HB.out (.c GE176.out .n))) A4.out).mono ?_); rintro e w22 ⟨rfl, hb⟩; refine ⟨_, rfl, ?_⟩; replace BK176 := Aside0.mk (blk_below (h0 BK176.out) hb); replace HB := Aside0.mk (below_step (bq HB.out (.c GE176.out .n)) hb); (try clear hb); (try clear hb2); (try clear hk); (try clear hi)) | ((with_reducible refine gate_dst (N := 11) rfl ?_); refine box_event ?hg (N := 11) ?hd (cs := #[.int .i64 0, .int .i64 0]) (t := 28) ?hr ?_; (case hd => rfl); (case hg => rfl); (case hr => first | (go_simp; done) | (go_simp; rfl)); intro gb184 hg w23 hbox hb; have BK184 := Aside0.mk (hbox); have GW184 := Aside0.mk ((by rw [hg]; exact (below_size (bq HB.out (.c GE176.out .n))) : w.heap.size ≤ gb184)); have GE184 := Aside0.mk ((by rw [hg]; exact (below_size (bq HB.out (.c GE176.out .n))) : w.heap.size ≤ gb184)); replace HB := Aside0.mk (below_step (bq HB.out (.c GE176.out .n)) hb); have NB176_184 := Aside0.mk ((by rw [hg]; exact Nat.ne_of_lt (blk_lt (g := gb176) (o := .cells #[.int .i64 0, .int .i64 0] 28 (0, 0)) (h0 BK176.out)) : gb176 ≠ gb184)); have NB184_176 := Aside0.mk ((by rw [hg]; exact Nat.ne_of_gt (blk_lt (g := gb176) (o := .cells #[.int .i64 0, .int .i64 0] 28 (0, 0)) (h0 BK176.out)) : gb184 ≠ gb176)); replace BK176 := Aside0.mk (blk_below (h0 BK176.out) hb); clear hb hbox hg; have hnb24 := NB184_176.out; have hnc24 := NB176_184.out; have hcz25_0 : w23.cell? ⟨gb184, 0, none⟩ = some (.int .i64 0) := (blk_cell BK184.out 0).trans rfl; have hcz25_1 : w23.cell? ⟨gb184, 1, none⟩ = some (.int .i64 0) := (blk_cell BK184.out 1).trans rfl; have hfz25_0 := blk_frozen BK184.out 0; have hfz25_1 := blk_frozen BK184.out 1) | (go_at_call 76; (with_reducible refine (impl_ValidPoint.calls t180 t182 false _ A7.out).mono ?_); rintro e w26 ⟨rfl, hb⟩; replace BK176 := Aside0.mk (blk_below (g := gb176) (o := .cells #[.int .i64 0, .int .i64 0] 28 (0, 0)) (hq BK176.out (.c NB176_184.out .n)) hb); replace BK184 := Aside0.mk (blk_below (g := gb184) (o := .cells #[.int .i64 t180, .int .i64 t182] 28 (0, 0)) (by refine hp ?_; refine blk_put (cs := #[.int .i64 t180, .int .i64 0]) ?_ 1 _ rfl; refine hp ?_; refine blk_put (cs := #[.int .i64 0, .int .i64 0]) ?_ 0 _ rfl; exact h0 BK184.out) hb); replace HB := Aside0.mk (below_step (bq HB.out (.c GE176.out (.c GE184.out .n))) hb); (try clear hb); (try clear hb2); (try clear hk); (try clear hi); have hcz27_0 : w26.cell? ⟨gb176, 0, none⟩ = some (.int .i64 0) := (blk_cell BK176.out 0).trans rfl; have hcz27_1 : w26.cell? ⟨gb176, 1, none⟩ = some (.int .i64 0) := (blk_cell BK176.out 1).trans rfl; have hfz27_0 := blk_frozen BK176.out 0; have hfz27_1 := blk_frozen BK176.out 1))
        refine bodyPost_ret (results_ct rfl _ _ gb176 28 #[.int .i64 0, .int .i64 0] (0, 0) _ rfl (by refine hp ?_; refine blk_put (cs := #[.int .i64 0, .int .i64 0]) ?_ 1 _ rfl; refine hp ?_; refine blk_put (cs := #[.int .i64 0, .int .i64 0]) ?_ 0 _ rfl; exact h0 BK176.out) Tryz.underlying28 rfl (by kernel_rfl)) rfl ?_
        exact ⟨by first | rfl | (simp [errW_none, errW_some] <;> rfl) | (simp [*, errW_none, errW_some] <;> rfl), bq HB.out (.c GE176.out (.c GE184.out .n))⟩
    · replace c6 := Bool.eq_false_iff.mpr c6
      subst c6
      have H1 : (some (0, 0, false)) = some (r1, r2, r3) := by rw [if_neg (show ¬ (false = true) by decide)] at H; exact H
      clear H
      have H := H1
      clear H1
      simp only [Option.some.injEq, Prod.mk.injEq] at H
      obtain ⟨rfl, rfl, rfl⟩ := H
      go_enter Tryz.func22, Tryz.ntmps22
      go_wp2_with (first | ((with_reducible refine gate_dst (N := 2) rfl ?_); refine box_event ?hg (N := 2) ?hd (cs := #[.int .i64 0, .int .i64 0]) (t := 28) ?hr ?_; (case hd => rfl); (case hg => rfl); (case hr => first | (go_simp; done) | (go_simp; rfl)); intro gb176 hg w28 hbox hb; have BK176 := Aside0.mk (hbox); have GW176 := Aside0.mk ((by rw [hg]; exact (below_size (b0 HB.out)) : w.heap.size ≤ gb176)); have GE176 := Aside0.mk ((by rw [hg]; exact (below_size (b0 HB.out)) : w.heap.size ≤ gb176)); replace HB := Aside0.mk (below_step (b0 HB.out) hb); clear hb hbox hg) | ((with_reducible refine gate_callee (f := 74) rfl ?_); refine goesL_ (some 14) rfl rfl Tryz.func74 (by kernel_rfl) rfl #[.string a0, .string (⟨#[32]⟩ : ByteArray)] rfl (by (try simp only [List.map_toArray, List.map_cons, List.map_nil]); first | done | rfl | (simp only [List.length_drop, List.length_take]; rfl)) ?_; (with_reducible refine (strings_Cut.calls a0 (⟨#[32]⟩ : ByteArray) t177 t178 t179 _ (okd_ hO_ (bq HB.out (.c GE176.out .n))) A2.out).mono ?_); rintro e w29 ⟨rfl, hb⟩; refine ⟨_, rfl, ?_⟩; replace BK176 := Aside0.mk (blk_below (h0 BK176.out) hb); replace HB := Aside0.mk (below_step (bq HB.out (.c GE176.out .n)) hb); (try clear hb); (try clear hb2); (try clear hk); (try clear hi)) | ((with_reducible refine gate_callee (f := 75) rfl ?_); refine goesL_ (some 20) rfl rfl Tryz.func75 (by kernel_rfl) rfl #[.string t177] rfl (by (try simp only [List.map_toArray, List.map_cons, List.map_nil]); first | done | rfl | (simp only [List.length_drop, List.length_take]; rfl)) ?_; (with_reducible refine (impl_readDegrees.calls t177 t180 true _ (okd_ hO_ (bq HB.out (.c GE176.out .n))) A3.out).mono ?_); rintro e w30 ⟨rfl, hb⟩; refine ⟨_, rfl, ?_⟩; replace BK176 := Aside0.mk (blk_below (h0 BK176.out) hb); replace HB := Aside0.mk (below_step (bq HB.out (.c GE176.out .n)) hb); (try clear hb); (try clear hb2); (try clear hk); (try clear hi)) | ((with_reducible refine gate_callee (f := 75) rfl ?_); refine goesL_ (some 25) rfl rfl Tryz.func75 (by kernel_rfl) rfl #[.string t178] rfl (by (try simp only [List.map_toArray, List.map_cons, List.map_nil]); first | done | rfl | (simp only [List.length_drop, List.length_take]; rfl)) ?_; (with_reducible refine (impl_readDegrees.calls t178 t182 false _ (okd_ hO_ (bq HB.out (.c GE176.out .n))) A4.out).mono ?_); rintro e w31 ⟨rfl, hb⟩; refine ⟨_, rfl, ?_⟩; replace BK176 := Aside0.mk (blk_below (h0 BK176.out) hb); replace HB := Aside0.mk (below_step (bq HB.out (.c GE176.out .n)) hb); (try clear hb); (try clear hb2); (try clear hk); (try clear hi)) | ((with_reducible refine gate_dst (N := 11) rfl ?_); refine box_event ?hg (N := 11) ?hd (cs := #[.int .i64 0, .int .i64 0]) (t := 28) ?hr ?_; (case hd => rfl); (case hg => rfl); (case hr => first | (go_simp; done) | (go_simp; rfl)); intro gb184 hg w32 hbox hb; have BK184 := Aside0.mk (hbox); have GW184 := Aside0.mk ((by rw [hg]; exact (below_size (bq HB.out (.c GE176.out .n))) : w.heap.size ≤ gb184)); have GE184 := Aside0.mk ((by rw [hg]; exact (below_size (bq HB.out (.c GE176.out .n))) : w.heap.size ≤ gb184)); replace HB := Aside0.mk (below_step (bq HB.out (.c GE176.out .n)) hb); have NB176_184 := Aside0.mk ((by rw [hg]; exact Nat.ne_of_lt (blk_lt (g := gb176) (o := .cells #[.int .i64 0, .int .i64 0] 28 (0, 0)) (h0 BK176.out)) : gb176 ≠ gb184)); have NB184_176 := Aside0.mk ((by rw [hg]; exact Nat.ne_of_gt (blk_lt (g := gb176) (o := .cells #[.int .i64 0, .int .i64 0] 28 (0, 0)) (h0 BK176.out)) : gb184 ≠ gb176)); replace BK176 := Aside0.mk (blk_below (h0 BK176.out) hb); clear hb hbox hg; have hnb33 := NB184_176.out; have hnc33 := NB176_184.out; have hcz34_0 : w32.cell? ⟨gb184, 0, none⟩ = some (.int .i64 0) := (blk_cell BK184.out 0).trans rfl; have hcz34_1 : w32.cell? ⟨gb184, 1, none⟩ = some (.int .i64 0) := (blk_cell BK184.out 1).trans rfl; have hfz34_0 := blk_frozen BK184.out 0; have hfz34_1 := blk_frozen BK184.out 1; have hcz35_0 : w32.cell? ⟨gb176, 0, none⟩ = some (.int .i64 0) := (blk_cell BK176.out 0).trans rfl; have hcz35_1 : w32.cell? ⟨gb176, 1, none⟩ = some (.int .i64 0) := (blk_cell BK176.out 1).trans rfl; have hfz35_0 := blk_frozen BK176.out 0; have hfz35_1 := blk_frozen BK176.out 1))
      refine bodyPost_ret (results_ct rfl _ _ gb176 28 #[.int .i64 0, .int .i64 0] (0, 0) _ rfl (by refine hp ?_; refine blk_put (cs := #[.int .i64 0, .int .i64 0]) ?_ 1 _ rfl; refine hp ?_; refine blk_put (cs := #[.int .i64 0, .int .i64 0]) ?_ 0 _ rfl; exact hq BK176.out (.c NB176_184.out .n)) Tryz.underlying28 rfl (by kernel_rfl)) rfl ?_
      exact ⟨by first | rfl | (simp [errW_none, errW_some] <;> rfl) | (simp [*, errW_none, errW_some] <;> rfl), bq HB.out (.c GE176.out (.c GE184.out .n))⟩
  · replace c5 := Bool.eq_false_iff.mpr c5
    subst c5
    have H1 : (some (0, 0, false)) = some (r1, r2, r3) := by rw [if_neg (show ¬ (false = true) by decide)] at H; exact H
    clear H
    have H := H1
    clear H1
    simp only [Option.some.injEq, Prod.mk.injEq] at H
    obtain ⟨rfl, rfl, rfl⟩ := H
    go_enter Tryz.func22, Tryz.ntmps22
    go_wp2_with (first | ((with_reducible refine gate_dst (N := 2) rfl ?_); refine box_event ?hg (N := 2) ?hd (cs := #[.int .i64 0, .int .i64 0]) (t := 28) ?hr ?_; (case hd => rfl); (case hg => rfl); (case hr => first | (go_simp; done) | (go_simp; rfl)); intro gb176 hg w36 hbox hb; have BK176 := Aside0.mk (hbox); have GW176 := Aside0.mk ((by rw [hg]; exact (below_size (b0 HB.out)) : w.heap.size ≤ gb176)); have GE176 := Aside0.mk ((by rw [hg]; exact (below_size (b0 HB.out)) : w.heap.size ≤ gb176)); replace HB := Aside0.mk (below_step (b0 HB.out) hb); clear hb hbox hg) | ((with_reducible refine gate_callee (f := 74) rfl ?_); refine goesL_ (some 14) rfl rfl Tryz.func74 (by kernel_rfl) rfl #[.string a0, .string (⟨#[32]⟩ : ByteArray)] rfl (by (try simp only [List.map_toArray, List.map_cons, List.map_nil]); first | done | rfl | (simp only [List.length_drop, List.length_take]; rfl)) ?_; (with_reducible refine (strings_Cut.calls a0 (⟨#[32]⟩ : ByteArray) t177 t178 t179 _ (okd_ hO_ (bq HB.out (.c GE176.out .n))) A2.out).mono ?_); rintro e w37 ⟨rfl, hb⟩; refine ⟨_, rfl, ?_⟩; replace BK176 := Aside0.mk (blk_below (h0 BK176.out) hb); replace HB := Aside0.mk (below_step (bq HB.out (.c GE176.out .n)) hb); (try clear hb); (try clear hb2); (try clear hk); (try clear hi)) | ((with_reducible refine gate_callee (f := 75) rfl ?_); refine goesL_ (some 20) rfl rfl Tryz.func75 (by kernel_rfl) rfl #[.string t177] rfl (by (try simp only [List.map_toArray, List.map_cons, List.map_nil]); first | done | rfl | (simp only [List.length_drop, List.length_take]; rfl)) ?_; (with_reducible refine (impl_readDegrees.calls t177 t180 false _ (okd_ hO_ (bq HB.out (.c GE176.out .n))) A3.out).mono ?_); rintro e w38 ⟨rfl, hb⟩; refine ⟨_, rfl, ?_⟩; replace BK176 := Aside0.mk (blk_below (h0 BK176.out) hb); replace HB := Aside0.mk (below_step (bq HB.out (.c GE176.out .n)) hb); (try clear hb); (try clear hb2); (try clear hk); (try clear hi)) | ((with_reducible refine gate_callee (f := 75) rfl ?_); refine goesL_ (some 25) rfl rfl Tryz.func75 (by kernel_rfl) rfl #[.string t178] rfl (by (try simp only [List.map_toArray, List.map_cons, List.map_nil]); first | done | rfl | (simp only [List.length_drop, List.length_take]; rfl)) ?_; (with_reducible refine (impl_readDegrees.calls t178 t182 t183 _ (okd_ hO_ (bq HB.out (.c GE176.out .n))) A4.out).mono ?_); rintro e w39 ⟨rfl, hb⟩; refine ⟨_, rfl, ?_⟩; replace BK176 := Aside0.mk (blk_below (h0 BK176.out) hb); replace HB := Aside0.mk (below_step (bq HB.out (.c GE176.out .n)) hb); (try clear hb); (try clear hb2); (try clear hk); (try clear hi)) | ((with_reducible refine gate_dst (N := 11) rfl ?_); refine box_event ?hg (N := 11) ?hd (cs := #[.int .i64 0, .int .i64 0]) (t := 28) ?hr ?_; (case hd => rfl); (case hg => rfl); (case hr => first | (go_simp; done) | (go_simp; rfl)); intro gb184 hg w40 hbox hb; have BK184 := Aside0.mk (hbox); have GW184 := Aside0.mk ((by rw [hg]; exact (below_size (bq HB.out (.c GE176.out .n))) : w.heap.size ≤ gb184)); have GE184 := Aside0.mk ((by rw [hg]; exact (below_size (bq HB.out (.c GE176.out .n))) : w.heap.size ≤ gb184)); replace HB := Aside0.mk (below_step (bq HB.out (.c GE176.out .n)) hb); have NB176_184 := Aside0.mk ((by rw [hg]; exact Nat.ne_of_lt (blk_lt (g := gb176) (o := .cells #[.int .i64 0, .int .i64 0] 28 (0, 0)) (h0 BK176.out)) : gb176 ≠ gb184)); have NB184_176 := Aside0.mk ((by rw [hg]; exact Nat.ne_of_gt (blk_lt (g := gb176) (o := .cells #[.int .i64 0, .int .i64 0] 28 (0, 0)) (h0 BK176.out)) : gb184 ≠ gb176)); replace BK176 := Aside0.mk (blk_below (h0 BK176.out) hb); clear hb hbox hg; have hnb41 := NB184_176.out; have hnc41 := NB176_184.out; have hcz42_0 : w40.cell? ⟨gb184, 0, none⟩ = some (.int .i64 0) := (blk_cell BK184.out 0).trans rfl; have hcz42_1 : w40.cell? ⟨gb184, 1, none⟩ = some (.int .i64 0) := (blk_cell BK184.out 1).trans rfl; have hfz42_0 := blk_frozen BK184.out 0; have hfz42_1 := blk_frozen BK184.out 1; have hcz43_0 : w40.cell? ⟨gb176, 0, none⟩ = some (.int .i64 0) := (blk_cell BK176.out 0).trans rfl; have hcz43_1 : w40.cell? ⟨gb176, 1, none⟩ = some (.int .i64 0) := (blk_cell BK176.out 1).trans rfl; have hfz43_0 := blk_frozen BK176.out 0; have hfz43_1 := blk_frozen BK176.out 1))
    refine bodyPost_ret (results_ct rfl _ _ gb176 28 #[.int .i64 0, .int .i64 0] (0, 0) _ rfl (by refine hp ?_; refine blk_put (cs := #[.int .i64 0, .int .i64 0]) ?_ 1 _ rfl; refine hp ?_; refine blk_put (cs := #[.int .i64 0, .int .i64 0]) ?_ 0 _ rfl; exact hq BK176.out (.c NB176_184.out .n)) Tryz.underlying28 rfl (by kernel_rfl)) rfl ?_
    exact ⟨by first | rfl | (simp [errW_none, errW_some] <;> rfl) | (simp [*, errW_none, errW_some] <;> rfl), bq HB.out (.c GE176.out (.c GE184.out .n))⟩
def strings_TrimPrefix.f (a0 : ByteArray) (a1 : ByteArray) : Option ByteArray := some ⟨(Lib.trimPrefix a0.data.toList a1.data.toList).toArray⟩
theorem strings_TrimPrefix.calls {b_ : Bool} (a0 : ByteArray) (a1 : ByteArray) (r : ByteArray) (w : World) (hO_ : Ok_ b_ w) (h : strings_TrimPrefix.f a0 a1 = some r) :
    Calls Tryz.prog 80 #[.string a0, .string a1] w fun e w' => e = .returned (.string r) ∧ Below w.heap.size w w' := by
  obtain rfl := Option.some.inj h
  exact trimPrefix_ a0 a1 w
def strings_Trim.f (a0 : ByteArray) (a1 : ByteArray) : Option ByteArray := if a0.size ≤ 4294967281 ∧ a1.size < 4294967281 ∧ (a1.data.toList.all fun b => decide (b.toNat < 128)) = true then some ⟨(Lib.trimS a0.data.toList a1.data.toList).toArray⟩ else none
theorem strings_Trim.calls {b_ : Bool} (a0 : ByteArray) (a1 : ByteArray) (r : ByteArray) (w : World) (hO_ : Ok_ b_ w) (h : strings_Trim.f a0 a1 = some r) :
    Calls Tryz.prog 81 #[.string a0, .string a1] w fun e w' => e = .returned (.string r) ∧ Below w.heap.size w w' := by
  unfold strings_Trim.f at h
  by_cases h2 : a0.size ≤ 4294967281 ∧ a1.size < 4294967281 ∧ (a1.data.toList.all fun b => decide (b.toNat < 128)) = true
  · rw [if_pos h2] at h
    obtain rfl := Option.some.inj h
    exact trim_ a0 a1 h2.1 h2.2.1 h2.2.2 w
  · rw [if_neg h2] at h; cases h
def impl_ReadAngle1.f (a0 : ByteArray) : Option Int := if a0.size ≤ 18 ∧ a0.data.toList.all Go.TX.isD = true then some ((Go.TX.val 0 a0.data.toList : Nat) : Int) else none
theorem impl_ReadAngle1.calls {b_ : Bool} (a0 : ByteArray) (r : Int) (w : World) (hO_ : Ok_ b_ w) (h : impl_ReadAngle1.f a0 = some r) :
    Calls Tryz.prog 82 #[.string a0] w fun e w' => e = .returned (.int .i64 r) ∧ Below w.heap.size w w' := by
  unfold impl_ReadAngle1.f at h
  by_cases h2 : a0.size ≤ 18 ∧ a0.data.toList.all Go.TX.isD = true
  · rw [if_pos h2] at h
    obtain rfl := Option.some.inj h
    exact number_ a0 h2.2 h2.1 w
  · rw [if_neg h2] at h; cases h
mutual
def impl_ReadAngle.j0 : Nat → ByteArray → ByteArray → ByteArray → ByteArray → ByteArray → Bool → Option (Int × Bool)
  | 0, _, _, _, _, _, _ => none
  | k + 1, x0, x4, x5, x8, x9, x41 => if x41 = true then (some (0, false)) else (if x5.size + x8.size ≤ 9223372036854775807 then (if 0 ≤ 2 then (if 2 ≤ (x9.size : Int) then (if (x5 ++ x8).size + (x9.extract 0 2).size ≤ 9223372036854775807 then (if 3 ≤ 8 then (if 8 ≤ (x9.size : Int) then (if ((x5 ++ x8) ++ (x9.extract 0 2)).size + (x9.extract 3 8).size ≤ 9223372036854775807 then ((strings_Trim.f (((x5 ++ x8) ++ (x9.extract 0 2)) ++ (x9.extract 3 8)) (⟨#[48, 49, 50, 51, 52, 53, 54, 55, 56, 57]⟩ : ByteArray)).bind fun t215 => (if t215.toList = ([] : List UInt8) then ((impl_ReadAngle1.f x8).bind fun t216 => ((impl_ReadAngle1.f (x9.extract 0 2)).bind fun t217 => ((impl_ReadAngle1.f (x9.extract 3 8)).bind fun t218 => ((impl_ReadAngle1.f x5).bind fun t219 => (if x4.toList = x0.toList then (impl_ReadAngle.j1 k x0 (wrap64 ((wrap64 (t219 * 10000000)) + (wrap64 (Int.tdiv (wrap64 ((wrap64 ((wrap64 (t216 * 6000000)) + (wrap64 (t217 * 100000)))) + t218)) 36))))) else (impl_ReadAngle.j1 k x0 (wrap64 (-(wrap64 ((wrap64 (t219 * 10000000)) + (wrap64 (Int.tdiv (wrap64 ((wrap64 ((wrap64 (t216 * 6000000)) + (wrap64 (t217 * 100000)))) + t218)) 36)))))))))))) else (some (0, false)))) else (none)) else (none)) else (none)) else (none)) else (none)) else (none)) else (none))
def impl_ReadAngle.j1 : Nat → ByteArray → Int → Option (Int × Bool)
  | 0, _, _ => none
  | k + 1, x0, x14 => (impl_within.f x14 (-1800000000) 1800000000).bind fun t220 => (if t220 = true then ((impl_angleText.f k x14).bind fun t221 => (if t221.toList = x0.toList then (some (x14, true)) else (some (0, false)))) else (some (0, false)))
end
def impl_ReadAngle.f (k : Nat) (a0 : ByteArray) : Option (Int × Bool) := (strings_TrimPrefix.f a0 (⟨#[45]⟩ : ByteArray)).bind fun t208 => ((strings_Cut.f t208 (⟨#[100]⟩ : ByteArray)).bind fun bt209 => ((strings_Cut.f bt209.2.1 (⟨#[109]⟩ : ByteArray)).bind fun bt212 => (if (bt209.1.size : Int) > 3 then (impl_ReadAngle.j0 k a0 t208 bt209.1 bt212.1 bt212.2.1 true) else (if (bt212.1.size : Int) = 2 then (impl_ReadAngle.j0 k a0 t208 bt209.1 bt212.1 bt212.2.1 ((bt212.2.1.size : Int) != 9)) else (impl_ReadAngle.j0 k a0 t208 bt209.1 bt212.1 bt212.2.1 true)))))
theorem impl_ReadAngle.mono_l : ∀ k, (∀ y0 y1 y2 y3 y4 y5, LeO (impl_ReadAngle.j0 k y0 y1 y2 y3 y4 y5) (impl_ReadAngle.j0 (k + 1) y0 y1 y2 y3 y4 y5)) ∧ (∀ y0 y1, LeO (impl_ReadAngle.j1 k y0 y1) (impl_ReadAngle.j1 (k + 1) y0 y1))
  | 0 => ⟨fun _ _ _ _ _ _ r h => by simp [impl_ReadAngle.j0] at h, fun _ _ r h => by simp [impl_ReadAngle.j1] at h⟩
  | k + 1 => by
    obtain ⟨ih0, ih1⟩ := impl_ReadAngle.mono_l k
    refine ⟨?_, ?_⟩
    · intro y0 y1 y2 y3 y4 y5
      unfold impl_ReadAngle.j0
      repeat' first
      | (with_reducible exact ih0 _ _ _ _ _ _)
      | (with_reducible exact ih1 _ _)
      | (with_reducible exact impl_angleText.mono _ _)
      | (with_reducible exact LeO.refl _)
      | (with_reducible exact LeO.none _)
      | (with_reducible refine LeO.ite ?_ ?_)
      | (with_reducible refine LeO.bind ?_ (fun _ => ?_))
      | exact ih0 _ _ _ _ _ _
      | exact ih1 _ _
      | exact impl_angleText.mono _ _
      | exact LeO.none _
      | refine LeO.ite ?_ ?_
      | refine LeO.bind ?_ (fun _ => ?_)
    · intro y0 y1
      unfold impl_ReadAngle.j1
      repeat' first
      | (with_reducible exact ih0 _ _ _ _ _ _)
      | (with_reducible exact ih1 _ _)
      | (with_reducible exact impl_angleText.mono _ _)
      | (with_reducible exact LeO.refl _)
      | (with_reducible exact LeO.none _)
      | (with_reducible refine LeO.ite ?_ ?_)
      | (with_reducible refine LeO.bind ?_ (fun _ => ?_))
      | exact ih0 _ _ _ _ _ _
      | exact ih1 _ _
      | exact impl_angleText.mono _ _
      | exact LeO.none _
      | refine LeO.ite ?_ ?_
      | refine LeO.bind ?_ (fun _ => ?_)
theorem impl_ReadAngle.mono : ∀ a0 k, LeO (impl_ReadAngle.f k a0) (impl_ReadAngle.f (k + 1) a0) := by
  intro a0 k
  obtain ⟨ih0, ih1⟩ := impl_ReadAngle.mono_l k
  unfold impl_ReadAngle.f
  repeat' first
      | (with_reducible exact ih0 _ _ _ _ _ _)
      | (with_reducible exact ih1 _ _)
      | (with_reducible exact impl_angleText.mono _ _)
      | (with_reducible exact LeO.refl _)
      | (with_reducible exact LeO.none _)
      | (with_reducible refine LeO.ite ?_ ?_)
      | (with_reducible refine LeO.bind ?_ (fun _ => ?_))
      | exact ih0 _ _ _ _ _ _
      | exact ih1 _ _
      | exact impl_angleText.mono _ _
      | exact LeO.none _
      | refine LeO.ite ?_ ?_
      | refine LeO.bind ?_ (fun _ => ?_)
def impl_ReadAngle.T6 : Bool × List (List Nat × List Nat) := (true, [([], []), ([], []), ([0, 1], [0, 1]), ([], []), ([3], [3]), ([2, 4], [2, 4]), ([], []), ([6], [6]), ([5, 7], [5, 7]), ([8, 0, 1, 2, 3, 4, 5, 6, 7, 8], [8])])
def impl_ReadAngle.B6 : List Nat := [0, 0, 3, 0, 8, 31, 0, 64, 255, 511]
theorem impl_ReadAngle.tab6 : rtab .any (opsOf Tryz.f25 6) = impl_ReadAngle.T6 := by kernel_rfl
theorem impl_ReadAngle.bits6 : waitsOk impl_ReadAngle.T6.2 impl_ReadAngle.B6 = true := by kernel_rfl
def impl_ReadAngle.T10 : Bool × List (List Nat × List Nat) := (true, [([], []), ([], []), ([0, 1], [0, 1]), ([2], [2]), ([], []), ([], []), ([5], [5]), ([4, 6, 2], [4, 6]), ([7], [7]), ([3, 8], [3, 8]), ([], []), ([], []), ([11], [11]), ([10, 12, 7], [10, 12]), ([9, 13], [9, 13]), ([14, 13, 0, 1, 2, 3, 4, 5, 6, 7, 8, 9, 10, 11, 12, 13, 14], [14])])
def impl_ReadAngle.B10 : List Nat := [0, 0, 3, 7, 0, 0, 32, 119, 247, 511, 0, 0, 2048, 7415, 16383, 32767]
theorem impl_ReadAngle.tab10 : rtab .any (opsOf Tryz.f25 10) = impl_ReadAngle.T10 := by kernel_rfl
theorem impl_ReadAngle.bits10 : waitsOk impl_ReadAngle.T10.2 impl_ReadAngle.B10 = true := by kernel_rfl
set_option maxHeartbeats 8000000 in
set_option maxRecDepth 100000 in
theorem impl_ReadAngle.calls {b_ : Bool} (k : Nat) (a0 : ByteArray) (r1 : Int) (r2 : Bool) (w : World) (hO_ : Ok_ b_ w) (h : impl_ReadAngle.f k a0 = some (r1, r2)) :
    Calls Tryz.prog 25 #[.string a0] w fun e w' => e = .returned (.tuple #[.int .i64 r1, .bool r2]) ∧ Below w.heap.size w w' := by
  have HB := Aside0.mk (Below.refl w.heap.size w)
  have H : ((strings_TrimPrefix.f a0 (⟨#[45]⟩ : ByteArray)).bind fun t208 => ((strings_Cut.f t208 (⟨#[100]⟩ : ByteArray)).bind fun bt209 => ((strings_Cut.f bt209.2.1 (⟨#[109]⟩ : ByteArray)).bind fun bt212 => (if (bt209.1.size : Int) > 3 then (impl_ReadAngle.j0 k a0 t208 bt209.1 bt212.1 bt212.2.1 true) else (if (bt212.1.size : Int) = 2 then (impl_ReadAngle.j0 k a0 t208 bt209.1 bt212.1 bt212.2.1 ((bt212.2.1.size : Int) != 9)) else (impl_ReadAngle.j0 k a0 t208 bt209.1 bt212.1 bt212.2.1 true)))))) = some (r1, r2) := h
  clear h
  replace H := Option.bind_eq_some_iff.mp H
  obtain ⟨t208, A20, H⟩ := H
  replace H : ((strings_Cut.f t208 (⟨#[100]⟩ : ByteArray)).bind fun bt209 => ((strings_Cut.f bt209.2.1 (⟨#[109]⟩ : ByteArray)).bind fun bt212 => (if (bt209.1.size : Int) > 3 then (impl_ReadAngle.j0 k a0 t208 bt209.1 bt212.1 bt212.2.1 true) else (if (bt212.1.size : Int) = 2 then (impl_ReadAngle.j0 k a0 t208 bt209.1 bt212.1 bt212.2.1 ((bt212.2.1.size : Int) != 9)) else (impl_ReadAngle.j0 k a0 t208 bt209.1 bt212.1 bt212.2.1 true))))) = some (r1, r2) := H
  have A2 := Aside0.mk A20
  clear A20
  replace H := Option.bind_eq_some_iff.mp H
  obtain ⟨⟨t209, t210, t211⟩, A30, H⟩ := H
  replace H : ((strings_Cut.f t210 (⟨#[109]⟩ : ByteArray)).bind fun bt212 => (if (t209.size : Int) > 3 then (impl_ReadAngle.j0 k a0 t208 t209 bt212.1 bt212.2.1 true) else (if (bt212.1.size : Int) = 2 then (impl_ReadAngle.j0 k a0 t208 t209 bt212.1 bt212.2.1 ((bt212.2.1.size : Int) != 9)) else (impl_ReadAngle.j0 k a0 t208 t209 bt212.1 bt212.2.1 true)))) = some (r1, r2) := H
  have A3 := Aside0.mk A30
  clear A30
  replace H := Option.bind_eq_some_iff.mp H
  obtain ⟨⟨t212, t213, t214⟩, A40, H⟩ := H
  replace H : (if (t209.size : Int) > 3 then (impl_ReadAngle.j0 k a0 t208 t209 t212 t213 true) else (if (t212.size : Int) = 2 then (impl_ReadAngle.j0 k a0 t208 t209 t212 t213 ((t213.size : Int) != 9)) else (impl_ReadAngle.j0 k a0 t208 t209 t212 t213 true))) = some (r1, r2) := H
  have A4 := Aside0.mk A40
  clear A40
  have HC5 := Aside0.mk H
  clear H
  go_enter Tryz.func25, Tryz.ntmps25
  go_upto_region 4 with (first | ((with_reducible refine gate_callee (f := 80) rfl ?_); refine goesL_ (some 16) rfl rfl Tryz.func80 (by kernel_rfl) rfl #[.string a0, .string (⟨#[45]⟩ : ByteArray)] rfl (by (try simp only [List.map_toArray, List.map_cons, List.map_nil]); first | done | rfl | (simp only [List.length_drop, List.length_take]; rfl)) ?_; (with_reducible refine (strings_TrimPrefix.calls a0 (⟨#[45]⟩ : ByteArray) t208 _ (okd_ hO_ (b0 HB.out)) A2.out).mono ?_); rintro e w6 ⟨rfl, hb⟩; refine ⟨_, rfl, ?_⟩; replace HB := Aside0.mk (below_step (b0 HB.out) hb); (try clear hb); (try clear hb2); (try clear hk); (try clear hi)) | ((with_reducible refine gate_callee (f := 74) rfl ?_); refine goesL_ (some 19) rfl rfl Tryz.func74 (by kernel_rfl) rfl #[.string t208, .string (⟨#[100]⟩ : ByteArray)] rfl (by (try simp only [List.map_toArray, List.map_cons, List.map_nil]); first | done | rfl | (simp only [List.length_drop, List.length_take]; rfl)) ?_; (with_reducible refine (strings_Cut.calls t208 (⟨#[100]⟩ : ByteArray) t209 t210 t211 _ (okd_ hO_ (b0 HB.out)) A3.out).mono ?_); rintro e w7 ⟨rfl, hb⟩; refine ⟨_, rfl, ?_⟩; replace HB := Aside0.mk (below_step (b0 HB.out) hb); (try clear hb); (try clear hb2); (try clear hk); (try clear hi)) | ((with_reducible refine gate_callee (f := 74) rfl ?_); refine goesL_ (some 25) rfl rfl Tryz.func74 (by kernel_rfl) rfl #[.string t210, .string (⟨#[109]⟩ : ByteArray)] rfl (by (try simp only [List.map_toArray, List.map_cons, List.map_nil]); first | done | rfl | (simp only [List.length_drop, List.length_take]; rfl)) ?_; (with_reducible refine (strings_Cut.calls t210 (⟨#[109]⟩ : ByteArray) t212 t213 t214 _ (okd_ hO_ (b0 HB.out)) A4.out).mono ?_); rintro e w8 ⟨rfl, hb⟩; refine ⟨_, rfl, ?_⟩; replace HB := Aside0.mk (below_step (b0 HB.out) hb); (try clear hb); (try clear hb2); (try clear hk); (try clear hi)))
  (try simp only [Act.put, List.setIfInBounds_toArray, List.set_cons_zero, List.set_cons_succ])
  go_cut [41] (fun v41 wc => ∃ (kq : Nat) (x41_4 : Bool), v41 = .bool x41_4 ∧ Aside0 (impl_ReadAngle.j0 kq a0 t208 t209 t212 t213 x41_4 = some (r1, r2)) ∧ Aside0 (kq ≤ k) ∧ Aside0 (Below w.heap.size w wc))
  case first =>
    have H := HC5.out
    clear HC5
    by_cases c9 : (t209.size : Int) > 3
    · rw [if_pos c9] at H
      have c9b0 : decide (3 < (t209.size : Int)) = true := decide_eq_true c9
      have c9b1 : decide (3 < t209.size) = true := decide_eq_true (by omega)
      clear c9
      (first | rw [c9b0] | (simp only [i64_w, i32_w]; rw [c9b0]) | skip)
      have H' := Aside0.mk H
      clear H
      go_wp2
      go_meet
      case rel => exact ⟨_, (true), er, H', ⟨by first | omega | exact Nat.le_refl _⟩, ⟨b0 HB.out⟩⟩
    · rw [if_neg c9] at H
      have c9b0 : decide (3 < (t209.size : Int)) = false := decide_eq_false c9
      have c9b1 : decide (3 < t209.size) = false := decide_eq_false (by omega)
      clear c9
      (first | rw [c9b0] | (simp only [i64_w, i32_w]; rw [c9b0]) | skip)
      by_cases c10 : (t212.size : Int) = 2
      · rw [if_pos c10] at H
        have c10b0 : ((t212.size : Int) == 2) = true := beq_iff_eq.mpr c10
        have c10b1 : ((t212.size : Int) != 2) = false := bne_eq_false_iff_eq.mpr c10
        clear c10
        have H' := Aside0.mk H
        clear H
        go_wp2
        go_meet
        case rel => exact ⟨_, (((t213.size : Int) != 9)), er, H', ⟨by first | omega | exact Nat.le_refl _⟩, ⟨b0 HB.out⟩⟩
      · rw [if_neg c10] at H
        have c10b0 : ((t212.size : Int) == 2) = false := beq_eq_false_iff_ne.mpr c10
        have c10b1 : ((t212.size : Int) != 2) = true := bne_iff_ne.mpr c10
        have H' := Aside0.mk H
        clear H
        go_wp2
        go_meet
        case rel => exact ⟨_, (true), er, H', ⟨by first | omega | exact Nat.le_refl _⟩, ⟨b0 HB.out⟩⟩
  case rest =>
    clear HC5
    try clear c1
    try clear c2
    try clear p2
    try clear c7
    try clear c8
    try clear c9
    try clear c9b0
    try clear c9b1
    try clear c10
    try clear c10b0
    try clear c10b1
    obtain ⟨kq, x41_4, rfl, HA, HJ4, HB⟩ := hcut
    cases kq with
    | zero => exact absurd HA.out (by simp [impl_ReadAngle.j0])
    | succ kj4 =>
      have H := HA.out
      clear HA
      simp only [impl_ReadAngle.j0] at H
      by_cases c11 : x41_4 = true
      · subst c11
        have H1 : (some (0, false)) = some (r1, r2) := by rw [if_pos rfl] at H; exact H
        clear H
        have H := H1
        clear H1
        simp only [Option.some.injEq, Prod.mk.injEq] at H
        obtain ⟨rfl, rfl⟩ := H
        go_wp2
        go_ret2
        exact ⟨by first | rfl | (simp [errW_none, errW_some] <;> rfl) | (simp [*, errW_none, errW_some] <;> rfl), b0 HB.out⟩
      · replace c11 := Bool.eq_false_iff.mpr c11
        subst c11
        have H1 : (if t209.size + t212.size ≤ 9223372036854775807 then (if 0 ≤ 2 then (if 2 ≤ (t213.size : Int) then (if (t209 ++ t212).size + (t213.extract 0 2).size ≤ 9223372036854775807 then (if 3 ≤ 8 then (if 8 ≤ (t213.size : Int) then (if ((t209 ++ t212) ++ (t213.extract 0 2)).size + (t213.extract 3 8).size ≤ 9223372036854775807 then ((strings_Trim.f (((t209 ++ t212) ++ (t213.extract 0 2)) ++ (t213.extract 3 8)) (⟨#[48, 49, 50, 51, 52, 53, 54, 55, 56, 57]⟩ : ByteArray)).bind fun t215 => (if t215.toList = ([] : List UInt8) then ((impl_ReadAngle1.f t212).bind fun t216 => ((impl_ReadAngle1.f (t213.extract 0 2)).bind fun t217 => ((impl_ReadAngle1.f (t213.extract 3 8)).bind fun t218 => ((impl_ReadAngle1.f t209).bind fun t219 => (if t208.toList = a0.toList then (impl_ReadAngle.j1 kj4 a0 (wrap64 ((wrap64 (t219 * 10000000)) + (wrap64 (Int.tdiv (wrap64 ((wrap64 ((wrap64 (t216 * 6000000)) + (wrap64 (t217 * 100000)))) + t218)) 36))))) else (impl_ReadAngle.j1 kj4 a0 (wrap64 (-(wrap64 ((wrap64 (t219 * 10000000)) + (wrap64 (Int.tdiv (wrap64 ((wrap64 ((wrap64 (t216 * 6000000)) + (wrap64 (t217 * 100000)))) + t218)) 36)))))))))))) else (some (0, false)))) else (none)) else (none)) else (none)) else (none)) else (none)) else (none)) else (none)) = some (r1, r2) := by rw [if_neg (show ¬ (false = true) by decide)] at H; exact H
        clear H
        have H := H1
        clear H1
        by_cases c12 : t209.size + t212.size ≤ 9223372036854775807
        · rw [if_pos c12] at H
          have c12b0 := eq_true c12
          have c12b1 : decide (t209.size + t212.size ≤ 9223372036854775807) = true := decide_eq_true c12
          try have c12b2 : (9223372036854775807 < t209.size + t212.size) = False := eq_false (Nat.not_lt.2 c12)
          by_cases c13 : 0 ≤ 2
          · rw [if_pos c13] at H
            have c13b0 := eq_true c13
            have c13b1 : decide (0 ≤ 2) = true := decide_eq_true c13
            clear c13
            by_cases c14 : 2 ≤ (t213.size : Int)
            · rw [if_pos c14] at H
              have c14b0 := eq_true c14
              have c14b1 : decide (2 ≤ (t213.size : Int)) = true := decide_eq_true c14
              clear c14
              by_cases c15 : (t209 ++ t212).size + (t213.extract 0 2).size ≤ 9223372036854775807
              · rw [if_pos c15] at H
                have c15b0 := eq_true c15
                have c15b1 : decide ((t209 ++ t212).size + (t213.extract 0 2).size ≤ 9223372036854775807) = true := decide_eq_true c15
                try have c15b2 : (9223372036854775807 < (t209 ++ t212).size + (t213.extract 0 2).size) = False := eq_false (Nat.not_lt.2 c15)
                have c15z := c15
                try simp only [ByteArray.size_append, ByteArray.size_extract, Nat.sub_zero] at c15z
                try have c15b3 := eq_false (Nat.not_lt.2 c15z)
                try have c15b4 := eq_true c15z
                by_cases c16 : 3 ≤ 8
                · rw [if_pos c16] at H
                  have c16b0 := eq_true c16
                  have c16b1 : decide (3 ≤ 8) = true := decide_eq_true c16
                  clear c16
                  by_cases c17 : 8 ≤ (t213.size : Int)
                  · rw [if_pos c17] at H
                    have c17b0 := eq_true c17
                    have c17b1 : decide (8 ≤ (t213.size : Int)) = true := decide_eq_true c17
                    clear c17
                    by_cases c18 : ((t209 ++ t212) ++ (t213.extract 0 2)).size + (t213.extract 3 8).size ≤ 9223372036854775807
                    · rw [if_pos c18] at H
                      have c18b0 := eq_true c18
                      have c18b1 : decide (((t209 ++ t212) ++ (t213.extract 0 2)).size + (t213.extract 3 8).size ≤ 9223372036854775807) = true := decide_eq_true c18
                      try have c18b2 : (9223372036854775807 < ((t209 ++ t212) ++ (t213.extract 0 2)).size + (t213.extract 3 8).size) = False := eq_false (Nat.not_lt.2 c18)
                      have c18z := c18
                      try simp only [ByteArray.size_append, ByteArray.size_extract, Nat.sub_zero] at c18z
                      try have c18b3 := eq_false (Nat.not_lt.2 c18z)
                      try have c18b4 := eq_true c18z
                      replace H := Option.bind_eq_some_iff.mp H
                      obtain ⟨t215, A190, H⟩ := H
                      replace H : (if t215.toList = ([] : List UInt8) then ((impl_ReadAngle1.f t212).bind fun t216 => ((impl_ReadAngle1.f (t213.extract 0 2)).bind fun t217 => ((impl_ReadAngle1.f (t213.extract 3 8)).bind fun t218 => ((impl_ReadAngle1.f t209).bind fun t219 => (if t208.toList = a0.toList then (impl_ReadAngle.j1 kj4 a0 (wrap64 ((wrap64 (t219 * 10000000)) + (wrap64 (Int.tdiv (wrap64 ((wrap64 ((wrap64 (t216 * 6000000)) + (wrap64 (t217 * 100000)))) + t218)) 36))))) else (impl_ReadAngle.j1 kj4 a0 (wrap64 (-(wrap64 ((wrap64 (t219 * 10000000)) + (wrap64 (Int.tdiv (wrap64 ((wrap64 ((wrap64 (t216 * 6000000)) + (wrap64 (t217 * 100000)))) + t218)) 36)))))))))))) else (some (0, false))) = some (r1, r2) := H
                      have A19 := Aside0.mk A190
                      clear A190
                      by_cases c20 : t215.toList = ([] : List UInt8)
                      · rw [if_pos c20] at H
                        have c20b0 : (t215.toList == ([] : List UInt8)) = true := beq_iff_eq.mpr c20
                        have c20b1 : (t215.toList != ([] : List UInt8)) = false := bne_eq_false_iff_eq.mpr c20
                        clear c20
                        replace H := Option.bind_eq_some_iff.mp H
                        obtain ⟨t216, A210, H⟩ := H
                        replace H : ((impl_ReadAngle1.f (t213.extract 0 2)).bind fun t217 => ((impl_ReadAngle1.f (t213.extract 3 8)).bind fun t218 => ((impl_ReadAngle1.f t209).bind fun t219 => (if t208.toList = a0.toList then (impl_ReadAngle.j1 kj4 a0 (wrap64 ((wrap64 (t219 * 10000000)) + (wrap64 (Int.tdiv (wrap64 ((wrap64 ((wrap64 (t216 * 6000000)) + (wrap64 (t217 * 100000)))) + t218)) 36))))) else (impl_ReadAngle.j1 kj4 a0 (wrap64 (-(wrap64 ((wrap64 (t219 * 10000000)) + (wrap64 (Int.tdiv (wrap64 ((wrap64 ((wrap64 (t216 * 6000000)) + (wrap64 (t217 * 100000)))) + t218)) 36))))))))))) = some (r1, r2) := H
                        have A21 := Aside0.mk A210
                        clear A210
                        have c22b0 := eq_true (od : 0 ≤ 2)
                        have c23b0 := eq_true (od : 2 ≤ (t213.size : Int))
                        replace H := Option.bind_eq_some_iff.mp H
                        obtain ⟨t217, A240, H⟩ := H
                        replace H : ((impl_ReadAngle1.f (t213.extract 3 8)).bind fun t218 => ((impl_ReadAngle1.f t209).bind fun t219 => (if t208.toList = a0.toList then (impl_ReadAngle.j1 kj4 a0 (wrap64 ((wrap64 (t219 * 10000000)) + (wrap64 (Int.tdiv (wrap64 ((wrap64 ((wrap64 (t216 * 6000000)) + (wrap64 (t217 * 100000)))) + t218)) 36))))) else (impl_ReadAngle.j1 kj4 a0 (wrap64 (-(wrap64 ((wrap64 (t219 * 10000000)) + (wrap64 (Int.tdiv (wrap64 ((wrap64 ((wrap64 (t216 * 6000000)) + (wrap64 (t217 * 100000)))) + t218)) 36)))))))))) = some (r1, r2) := H
                        have A24 := Aside0.mk A240
                        clear A240
                        have c25b0 := eq_true (od : 3 ≤ 8)
                        have c26b0 := eq_true (od : 8 ≤ (t213.size : Int))
                        replace H := Option.bind_eq_some_iff.mp H
                        obtain ⟨t218, A270, H⟩ := H
                        replace H : ((impl_ReadAngle1.f t209).bind fun t219 => (if t208.toList = a0.toList then (impl_ReadAngle.j1 kj4 a0 (wrap64 ((wrap64 (t219 * 10000000)) + (wrap64 (Int.tdiv (wrap64 ((wrap64 ((wrap64 (t216 * 6000000)) + (wrap64 (t217 * 100000)))) + t218)) 36))))) else (impl_ReadAngle.j1 kj4 a0 (wrap64 (-(wrap64 ((wrap64 (t219 * 10000000)) + (wrap64 (Int.tdiv (wrap64 ((wrap64 ((wrap64 (t216 * 6000000)) + (wrap64 (t217 * 100000)))) + t218)) 36))))))))) = some (r1, r2) := H
                        have A27 := Aside0.mk A270
                        clear A270
                        replace H := Option.bind_eq_some_iff.mp H
                        obtain ⟨t219, A280, H⟩ := H
                        replace H : (if t208.toList = a0.toList then (impl_ReadAngle.j1 kj4 a0 (wrap64 ((wrap64 (t219 * 10000000)) + (wrap64 (Int.tdiv (wrap64 ((wrap64 ((wrap64 (t216 * 6000000)) + (wrap64 (t217 * 100000)))) + t218)) 36))))) else (impl_ReadAngle.j1 kj4 a0 (wrap64 (-(wrap64 ((wrap64 (t219 * 10000000)) + (wrap64 (Int.tdiv (wrap64 ((wrap64 ((wrap64 (t216 * 6000000)) + (wrap64 (t217 * 100000)))) + t218)) 36)))))))) = some (r1, r2) := H
                        have A28 := Aside0.mk A280
                        clear A280
                        have HC29 := Aside0.mk H
                        clear H
                        try go_wp2
                        replace HB := Aside0.mk (below_drew1 HB.out)
                        refine start_ (n := 10) (S := fun w' => True) (ds := []) #[false, false, false, false, false, false, false, false, false, false] (by kernel_rfl) rfl rfl trivial (fun hHeld => ?_); refine with_tabW impl_ReadAngle.tab6 impl_ReadAngle.bits6 (fun HT_ HW_ => ?_)
                        generalize wc.drew = w30 at HB hHeld ⊢
                        refine pA 0 (some 42) HT_ ?_
                        refine pA 1 (some 43) HT_ ?_
                        refine pA 2 (some 44) HT_ ?_
                        refine pA 3 (some 45) HT_ ?_
                        refine pA 4 (some 46) HT_ ?_
                        refine pA 5 (some 47) HT_ ?_
                        refine pA 6 (some 48) HT_ ?_
                        refine pA 7 (some 49) HT_ ?_
                        refine pA 8 (some 50) HT_ ?_
                        refine pA 9 (some 11) HT_ ?_
                        refine done_ (done_of HT_.out (by kernel_rfl)) ?_
                        try go_wp2_with (first | ((with_reducible refine gate_callee (f := 81) rfl ?_); refine goesL_ (some 52) rfl rfl Tryz.func81 (by kernel_rfl) rfl #[.string (((t209 ++ t212) ++ (t213.extract 0 2)) ++ (t213.extract 3 8)), .string (⟨#[48, 49, 50, 51, 52, 53, 54, 55, 56, 57]⟩ : ByteArray)] rfl (by (try simp only [List.map_toArray, List.map_cons, List.map_nil]); first | done | rfl | (simp only [List.length_drop, List.length_take]; rfl)) ?_; (with_reducible refine (strings_Trim.calls (((t209 ++ t212) ++ (t213.extract 0 2)) ++ (t213.extract 3 8)) (⟨#[48, 49, 50, 51, 52, 53, 54, 55, 56, 57]⟩ : ByteArray) t215 _ (okd_ hO_ (b0 HB.out)) A19.out).mono ?_); rintro e w31 ⟨rfl, hb⟩; refine ⟨_, rfl, ?_⟩; replace HB := Aside0.mk (below_step (b0 HB.out) hb); (try clear hb); (try clear hb2); (try clear hk); (try clear hi)))
                        replace HB := Aside0.mk (below_drew1 HB.out)
                        refine start_ (n := 16) (S := fun w' => True) (ds := []) #[false, false, false, false, false, false, false, false, false, false, false, false, false, false, false, false] (by kernel_rfl) rfl rfl trivial (fun hHeld => ?_); refine with_tabW impl_ReadAngle.tab10 impl_ReadAngle.bits10 (fun HT_ HW_ => ?_)
                        generalize w31.drew = w32 at HB hHeld ⊢
                        refine pA 0 (some 54) HT_ ?_
                        refine pA 1 (some 55) HT_ ?_
                        refine pA 4 (some 58) HT_ ?_
                        refine pA 5 (some 59) HT_ ?_
                        refine pA 6 (some 60) HT_ ?_
                        refine pA 10 (some 64) HT_ ?_
                        refine pA 11 (some 65) HT_ ?_
                        refine pA 12 (some 66) HT_ ?_
                        refine oA 2 (some 56) HT_ fun K hK => ?_
                        refine goesV_ Tryz.func82 (by kernel_rfl) rfl #[.string t212] (by rfl) rfl rfl (by rfl) (by (try simp only [List.map_toArray, List.map_cons, List.map_nil]); first | done | rfl | (simp only [List.length_drop, List.length_take]; rfl)) ?_
                        with_reducible refine (impl_ReadAngle1.calls t212 t216 _ (okd_ hO_ (b0 HB.out)) A21.out).mono ?_
                        rintro e w33 ⟨rfl, hb⟩
                        refine ⟨_, rfl, ?_⟩
                        replace HB := Aside0.mk (below_step (b0 HB.out) hb)
                        (try clear hb)
                        (try clear hb2)
                        (try clear hk)
                        (try clear hi)
                        refine hK.out _ _ trivial (fun hHeld => ?_)
                        clear hK K
                        refine nA (some 56) ?_
                        refine pA 3 (some 57) HT_ ?_
                        refine oA 7 (some 61) HT_ fun K hK => ?_
                        refine goesV_ Tryz.func82 (by kernel_rfl) rfl #[.string (t213.extract 0 2)] (by rfl) rfl rfl (by rfl) (by (try simp only [List.map_toArray, List.map_cons, List.map_nil]); first | done | rfl | (simp only [List.length_drop, List.length_take]; rfl)) ?_
                        with_reducible refine (impl_ReadAngle1.calls (t213.extract 0 2) t217 _ (okd_ hO_ (b0 HB.out)) A24.out).mono ?_
                        rintro e w34 ⟨rfl, hb⟩
                        refine ⟨_, rfl, ?_⟩
                        replace HB := Aside0.mk (below_step (b0 HB.out) hb)
                        (try clear hb)
                        (try clear hb2)
                        (try clear hk)
                        (try clear hi)
                        refine hK.out _ _ trivial (fun hHeld => ?_)
                        clear hK K
                        refine nA (some 61) ?_
                        refine pA 8 (some 62) HT_ ?_
                        refine pA 9 (some 63) HT_ ?_
                        refine oA 13 (some 67) HT_ fun K hK => ?_
                        refine goesV_ Tryz.func82 (by kernel_rfl) rfl #[.string (t213.extract 3 8)] (by rfl) rfl rfl (by rfl) (by (try simp only [List.map_toArray, List.map_cons, List.map_nil]); first | done | rfl | (simp only [List.length_drop, List.length_take]; rfl)) ?_
                        with_reducible refine (impl_ReadAngle1.calls (t213.extract 3 8) t218 _ (okd_ hO_ (b0 HB.out)) A27.out).mono ?_
                        rintro e w35 ⟨rfl, hb⟩
                        refine ⟨_, rfl, ?_⟩
                        replace HB := Aside0.mk (below_step (b0 HB.out) hb)
                        (try clear hb)
                        (try clear hb2)
                        (try clear hk)
                        (try clear hi)
                        refine hK.out _ _ trivial (fun hHeld => ?_)
                        clear hK K
                        refine nA (some 67) ?_
                        refine pA 14 (some 68) HT_ ?_
                        refine pA 15 (some 13) HT_ ?_
                        refine done_ (done_of HT_.out (by kernel_rfl)) ?_
                        go_upto_if 78 with (first | ((with_reducible refine gate_calleeV (j := 69) rfl ?_); refine goesLV_ (some 71) rfl rfl Tryz.func82 (by kernel_rfl) rfl #[.string t209] rfl (by rfl) (by (try simp only [List.map_toArray, List.map_cons, List.map_nil]); first | done | rfl | (simp only [List.length_drop, List.length_take]; rfl)) ?_; (with_reducible refine (impl_ReadAngle1.calls t209 t219 _ (okd_ hO_ (b0 HB.out)) A28.out).mono ?_); rintro e w36 ⟨rfl, hb⟩; refine ⟨_, rfl, ?_⟩; replace HB := Aside0.mk (below_step (b0 HB.out) hb); (try clear hb); (try clear hb2); (try clear hk); (try clear hi)))
                        (try simp only [Act.put, List.setIfInBounds_toArray, List.set_cons_zero, List.set_cons_succ])
                        go_cut [14] (fun v14 wc => ∃ (kq : Nat) (x14_28 : Int), v14 = .int .i64 x14_28 ∧ Aside0 (impl_ReadAngle.j1 kq a0 x14_28 = some (r1, r2)) ∧ Aside0 (kq ≤ kj4) ∧ Aside0 (Below w.heap.size w wc))
                        case first =>
                          have H := HC29.out
                          clear HC29
                          by_cases c37 : t208.toList = a0.toList
                          · rw [if_pos c37] at H
                            have c37b0 : (t208.toList == a0.toList) = true := beq_iff_eq.mpr c37
                            have c37b1 : (t208.toList != a0.toList) = false := bne_eq_false_iff_eq.mpr c37
                            clear c37
                            (first | rw [c37b0] | (simp only [i64_w, i32_w]; rw [c37b0]) | skip)
                            have H' := Aside0.mk H
                            clear H
                            go_wp2
                            go_meet
                            case rel => exact ⟨_, (wrap64 ((wrap64 (t219 * 10000000)) + (wrap64 (Int.tdiv (wrap64 ((wrap64 ((wrap64 (t216 * 6000000)) + (wrap64 (t217 * 100000)))) + t218)) 36)))), er, H', ⟨by have := HJ4.out; first | omega | exact Nat.le_refl _⟩, ⟨b0 HB.out⟩⟩
                          · rw [if_neg c37] at H
                            have c37b0 : (t208.toList == a0.toList) = false := beq_eq_false_iff_ne.mpr c37
                            have c37b1 : (t208.toList != a0.toList) = true := bne_iff_ne.mpr c37
                            (first | rw [c37b0] | (simp only [i64_w, i32_w]; rw [c37b0]) | skip)
                            have H' := Aside0.mk H
                            clear H
                            go_wp2
                            go_meet
                            case rel => exact ⟨_, (wrap64 (-(wrap64 ((wrap64 (t219 * 10000000)) + (wrap64 (Int.tdiv (wrap64 ((wrap64 ((wrap64 (t216 * 6000000)) + (wrap64 (t217 * 100000)))) + t218)) 36)))))), er, H', ⟨by have := HJ4.out; first | omega | exact Nat.le_refl _⟩, ⟨b0 HB.out⟩⟩
                        case rest =>
                          clear HC29
                          try clear c1
                          try clear c2
                          try clear p2
                          try clear c3
                          try clear p6
                          try clear c7
                          try clear c8
                          try clear c9
                          try clear c9b0
                          try clear c9b1
                          try clear c10
                          try clear c10b0
                          try clear c10b1
                          try clear c11
                          try clear c12
                          try clear c12b0
                          try clear c12b1
                          try clear c12b2
                          try clear c13
                          try clear c13b0
                          try clear c13b1
                          try clear c14
                          try clear c14b0
                          try clear c14b1
                          try clear c15
                          try clear c15b0
                          try clear c15b1
                          try clear c15b2
                          try clear c16
                          try clear c16b0
                          try clear c16b1
                          try clear c17
                          try clear c17b0
                          try clear c17b1
                          try clear c18
                          try clear c18b0
                          try clear c18b1
                          try clear c18b2
                          try clear c20
                          try clear c20b0
                          try clear c20b1
                          try clear c22
                          try clear c22b0
                          try clear c23
                          try clear c23b0
                          try clear c25
                          try clear c25b0
                          try clear c26
                          try clear c26b0
                          try clear c37
                          try clear c37b0
                          try clear c37b1
                          try clear p2
                          obtain ⟨kq, x14_28, rfl, HA, HJ28, HB⟩ := hcut
                          cases kq with
                          | zero => exact absurd HA.out (by simp [impl_ReadAngle.j1])
                          | succ kj28 =>
                            have H := HA.out
                            clear HA
                            simp only [impl_ReadAngle.j1] at H
                            replace H := Option.bind_eq_some_iff.mp H
                            obtain ⟨t220, A380, H⟩ := H
                            replace H : (if t220 = true then ((impl_angleText.f kj28 x14_28).bind fun t221 => (if t221.toList = a0.toList then (some (x14_28, true)) else (some (0, false)))) else (some (0, false))) = some (r1, r2) := H
                            have A38 := Aside0.mk A380
                            clear A380
                            by_cases c39 : t220 = true
                            · subst c39
                              have H1 : ((impl_angleText.f kj28 x14_28).bind fun t221 => (if t221.toList = a0.toList then (some (x14_28, true)) else (some (0, false)))) = some (r1, r2) := by rw [if_pos rfl] at H; exact H
                              clear H
                              have H := H1
                              clear H1
                              replace H := Option.bind_eq_some_iff.mp H
                              obtain ⟨t221, A400, H⟩ := H
                              replace H : (if t221.toList = a0.toList then (some (x14_28, true)) else (some (0, false))) = some (r1, r2) := H
                              have A40 := Aside0.mk A400
                              clear A400
                              by_cases c41 : t221.toList = a0.toList
                              · rw [if_pos c41] at H
                                have c41b0 : (t221.toList == a0.toList) = true := beq_iff_eq.mpr c41
                                have c41b1 : (t221.toList != a0.toList) = false := bne_eq_false_iff_eq.mpr c41
                                clear c41
                                simp only [Option.some.injEq, Prod.mk.injEq] at H
                                obtain ⟨rfl, rfl⟩ := H
                                go_wp2_with (first | ((with_reducible refine gate_callee (f := 78) rfl ?_); refine goesL_ (some 82) rfl rfl Tryz.func78 (by kernel_rfl) rfl #[.int .i64 x14_28, .int .i64 (-1800000000), .int .i64 1800000000] rfl (by (try simp only [List.map_toArray, List.map_cons, List.map_nil]); first | done | rfl | (simp only [List.length_drop, List.length_take]; rfl)) ?_; (with_reducible refine (impl_within.calls x14_28 (-1800000000) 1800000000 true _ A38.out).mono ?_); rintro e w' ⟨rfl, ⟨nd, rfl⟩⟩; refine ⟨_, rfl, ?_⟩) | (go_at_call 79; (with_reducible refine (impl_angleText.calls kj28 x14_28 t221 _ (okd_ hO_ (b0 HB.out)) A40.out).mono ?_); rintro e w42 ⟨rfl, hb⟩; replace HB := Aside0.mk (below_step (b0 HB.out) hb); (try clear hb); (try clear hb2); (try clear hk); (try clear hi)))
                                go_ret2
                                exact ⟨by first | rfl | (simp [errW_none, errW_some] <;> rfl) | (simp [*, errW_none, errW_some] <;> rfl), b0 HB.out⟩
                              · rw [if_neg c41] at H
                                have c41b0 : (t221.toList == a0.toList) = false := beq_eq_false_iff_ne.mpr c41
                                have c41b1 : (t221.toList != a0.toList) = true := bne_iff_ne.mpr c41
                                simp only [Option.some.injEq, Prod.mk.injEq] at H
                                obtain ⟨rfl, rfl⟩ := H
                                go_wp2_with (first | ((with_reducible refine gate_callee (f := 78) rfl ?_); refine goesL_ (some 82) rfl rfl Tryz.func78 (by kernel_rfl) rfl #[.int .i64 x14_28, .int .i64 (-1800000000), .int .i64 1800000000] rfl (by (try simp only [List.map_toArray, List.map_cons, List.map_nil]); first | done | rfl | (simp only [List.length_drop, List.length_take]; rfl)) ?_; (with_reducible refine (impl_within.calls x14_28 (-1800000000) 1800000000 true _ A38.out).mono ?_); rintro e w' ⟨rfl, ⟨nd, rfl⟩⟩; refine ⟨_, rfl, ?_⟩) | (go_at_call 79; (with_reducible refine (impl_angleText.calls kj28 x14_28 t221 _ (okd_ hO_ (b0 HB.out)) A40.out).mono ?_); rintro e w43 ⟨rfl, hb⟩; replace HB := Aside0.mk (below_step (b0 HB.out) hb); (try clear hb); (try clear hb2); (try clear hk); (try clear hi)))
                                go_ret2
                                exact ⟨by first | rfl | (simp [errW_none, errW_some] <;> rfl) | (simp [*, errW_none, errW_some] <;> rfl), b0 HB.out⟩
                            · replace c39 := Bool.eq_false_iff.mpr c39
                              subst c39
                              have H1 : (some (0, false)) = some (r1, r2) := by rw [if_neg (show ¬ (false = true) by decide)] at H; exact H
                              clear H
                              have H := H1
                              clear H1
                              simp only [Option.some.injEq, Prod.mk.injEq] at H
                              obtain ⟨rfl, rfl⟩ := H
                              go_wp2_with (first | ((with_reducible refine gate_callee (f := 78) rfl ?_); refine goesL_ (some 82) rfl rfl Tryz.func78 (by kernel_rfl) rfl #[.int .i64 x14_28, .int .i64 (-1800000000), .int .i64 1800000000] rfl (by (try simp only [List.map_toArray, List.map_cons, List.map_nil]); first | done | rfl | (simp only [List.length_drop, List.length_take]; rfl)) ?_; (with_reducible refine (impl_within.calls x14_28 (-1800000000) 1800000000 false _ A38.out).mono ?_); rintro e w' ⟨rfl, ⟨nd, rfl⟩⟩; refine ⟨_, rfl, ?_⟩))
                              go_ret2
                              exact ⟨by first | rfl | (simp [errW_none, errW_some] <;> rfl) | (simp [*, errW_none, errW_some] <;> rfl), b0 HB.out⟩
                      · rw [if_neg c20] at H
                        have c20b0 : (t215.toList == ([] : List UInt8)) = false := beq_eq_false_iff_ne.mpr c20
                        have c20b1 : (t215.toList != ([] : List UInt8)) = true := bne_iff_ne.mpr c20
                        simp only [Option.some.injEq, Prod.mk.injEq] at H
                        obtain ⟨rfl, rfl⟩ := H
                        try go_wp2
                        replace HB := Aside0.mk (below_drew1 HB.out)
                        refine start_ (n := 10) (S := fun w' => True) (ds := []) #[false, false, false, false, false, false, false, false, false, false] (by kernel_rfl) rfl rfl trivial (fun hHeld => ?_); refine with_tabW impl_ReadAngle.tab6 impl_ReadAngle.bits6 (fun HT_ HW_ => ?_)
                        generalize wc.drew = w44 at HB hHeld ⊢
                        refine pA 0 (some 42) HT_ ?_
                        refine pA 1 (some 43) HT_ ?_
                        refine pA 2 (some 44) HT_ ?_
                        refine pA 3 (some 45) HT_ ?_
                        refine pA 4 (some 46) HT_ ?_
                        refine pA 5 (some 47) HT_ ?_
                        refine pA 6 (some 48) HT_ ?_
                        refine pA 7 (some 49) HT_ ?_
                        refine pA 8 (some 50) HT_ ?_
                        refine pA 9 (some 11) HT_ ?_
                        refine done_ (done_of HT_.out (by kernel_rfl)) ?_
                        try go_wp2_with (first | ((with_reducible refine gate_callee (f := 81) rfl ?_); refine goesL_ (some 52) rfl rfl Tryz.func81 (by kernel_rfl) rfl #[.string (((t209 ++ t212) ++ (t213.extract 0 2)) ++ (t213.extract 3 8)), .string (⟨#[48, 49, 50, 51, 52, 53, 54, 55, 56, 57]⟩ : ByteArray)] rfl (by (try simp only [List.map_toArray, List.map_cons, List.map_nil]); first | done | rfl | (simp only [List.length_drop, List.length_take]; rfl)) ?_; (with_reducible refine (strings_Trim.calls (((t209 ++ t212) ++ (t213.extract 0 2)) ++ (t213.extract 3 8)) (⟨#[48, 49, 50, 51, 52, 53, 54, 55, 56, 57]⟩ : ByteArray) t215 _ (okd_ hO_ (b0 HB.out)) A19.out).mono ?_); rintro e w45 ⟨rfl, hb⟩; refine ⟨_, rfl, ?_⟩; replace HB := Aside0.mk (below_step (b0 HB.out) hb); (try clear hb); (try clear hb2); (try clear hk); (try clear hi)))
                        go_ret2
                        exact ⟨by first | rfl | (simp [errW_none, errW_some] <;> rfl) | (simp [*, errW_none, errW_some] <;> rfl), b0 HB.out⟩
                    · rw [if_neg c18] at H
                      exact absurd H (by simp)
                  · rw [if_neg c17] at H
                    exact absurd H (by simp)
                · rw [if_neg c16] at H
                  exact absurd H (by simp)
              · rw [if_neg c15] at H
                exact absurd H (by simp)
            · rw [if_neg c14] at H
              exact absurd H (by simp)
          · rw [if_neg c13] at H
            exact absurd H (by simp)
        · rw [if_neg c12] at H
          exact absurd H (by simp)
def impl_LonBetween.f (a0_0 : Int) (a0_1 : Int) (a1_0 : Int) (a1_1 : Int) : Option (Int × Int) := some ((Go.G880.impl_LonBetween ⟨a0_0, a0_1⟩ ⟨a1_0, a1_1⟩).1, (Go.G880.impl_LonBetween ⟨a0_0, a0_1⟩ ⟨a1_0, a1_1⟩).2)
theorem impl_LonBetween.calls (a0_0 : Int) (a0_1 : Int) (a1_0 : Int) (a1_1 : Int) (r1 : Int) (r2 : Int) (w : World) (h : impl_LonBetween.f a0_0 a0_1 a1_0 a1_1 = some (r1, r2)) :
    Calls Tryz.prog 26 #[.agg #[.int .i64 a0_0, .int .i64 a0_1], .agg #[.int .i64 a1_0, .int .i64 a1_1]] w fun e w' => e = .returned (.tuple #[.int .i64 r1, .int .i64 r2]) ∧ Below w.heap.size w w' := by
  simp only [impl_LonBetween.f, Option.some.injEq, Prod.mk.injEq] at h
  obtain ⟨rfl, rfl⟩ := h
  exact (impl_LonBetween.gives ⟨a0_0, a0_1⟩ ⟨a1_0, a1_1⟩).calls rfl rfl w
def impl_WrapLon.f (a0 : Int) : Option (Int) := some (Go.G880.impl_WrapLon a0)
theorem impl_WrapLon.calls (a0 : Int) (r : Int) (w : World) (h : impl_WrapLon.f a0 = some r) :
    Calls Tryz.prog 27 #[.int .i64 a0] w fun e w' => e = .returned (.int .i64 r) ∧ Below w.heap.size w w' := by
  obtain rfl := Option.some.inj h
  exact (impl_WrapLon.gives a0).calls rfl rfl w
def impl_Antipode.f (a0_0 : Int) (a0_1 : Int) : Option (Int × Int × Int) := some ((Go.G880.impl_Antipode ⟨a0_0, a0_1⟩).1.lat, (Go.G880.impl_Antipode ⟨a0_0, a0_1⟩).1.lon, (Go.G880.impl_Antipode ⟨a0_0, a0_1⟩).2)
theorem impl_Antipode.calls (a0_0 : Int) (a0_1 : Int) (r1 : Int) (r2 : Int) (r3 : Int) (w : World) (h : impl_Antipode.f a0_0 a0_1 = some (r1, r2, r3)) :
    Calls Tryz.prog 28 #[.agg #[.int .i64 a0_0, .int .i64 a0_1]] w fun e w' => e = .returned (.tuple #[.agg #[.int .i64 r1, .int .i64 r2], .int .i64 r3]) ∧ Below w.heap.size w w' := by
  simp only [impl_Antipode.f, Option.some.injEq, Prod.mk.injEq] at h
  obtain ⟨rfl, rfl, rfl⟩ := h
  exact (impl_Antipode.gives ⟨a0_0, a0_1⟩).calls rfl rfl w
def impl_SamePlace.f (a0_0 : Int) (a0_1 : Int) (a1_0 : Int) (a1_1 : Int) : Option (Bool × Int) := some ((Go.G880.impl_SamePlace ⟨a0_0, a0_1⟩ ⟨a1_0, a1_1⟩).1, (Go.G880.impl_SamePlace ⟨a0_0, a0_1⟩ ⟨a1_0, a1_1⟩).2)
theorem impl_SamePlace.calls (a0_0 : Int) (a0_1 : Int) (a1_0 : Int) (a1_1 : Int) (r1 : Bool) (r2 : Int) (w : World) (h : impl_SamePlace.f a0_0 a0_1 a1_0 a1_1 = some (r1, r2)) :
    Calls Tryz.prog 29 #[.agg #[.int .i64 a0_0, .int .i64 a0_1], .agg #[.int .i64 a1_0, .int .i64 a1_1]] w fun e w' => e = .returned (.tuple #[.bool r1, .int .i64 r2]) ∧ Below w.heap.size w w' := by
  simp only [impl_SamePlace.f, Option.some.injEq, Prod.mk.injEq] at h
  obtain ⟨rfl, rfl⟩ := h
  exact (impl_SamePlace.gives ⟨a0_0, a0_1⟩ ⟨a1_0, a1_1⟩).calls rfl rfl w
def impl_MiddlePoint.f (a0_0 : Int) (a0_1 : Int) (a1_0 : Int) (a1_1 : Int) : Option (Int × Int × Int × Int) := some ((Go.G880.impl_MiddlePoint ⟨a0_0, a0_1⟩ ⟨a1_0, a1_1⟩).1.lat, (Go.G880.impl_MiddlePoint ⟨a0_0, a0_1⟩ ⟨a1_0, a1_1⟩).1.lon, (Go.G880.impl_MiddlePoint ⟨a0_0, a0_1⟩ ⟨a1_0, a1_1⟩).2.1, (Go.G880.impl_MiddlePoint ⟨a0_0, a0_1⟩ ⟨a1_0, a1_1⟩).2.2)
theorem impl_MiddlePoint.calls (a0_0 : Int) (a0_1 : Int) (a1_0 : Int) (a1_1 : Int) (r1 : Int) (r2 : Int) (r3 : Int) (r4 : Int) (w : World) (h : impl_MiddlePoint.f a0_0 a0_1 a1_0 a1_1 = some (r1, r2, r3, r4)) :
    Calls Tryz.prog 30 #[.agg #[.int .i64 a0_0, .int .i64 a0_1], .agg #[.int .i64 a1_0, .int .i64 a1_1]] w fun e w' => e = .returned (.tuple #[.agg #[.int .i64 r1, .int .i64 r2], .int .i64 r3, .int .i64 r4]) ∧ Below w.heap.size w w' := by
  simp only [impl_MiddlePoint.f, Option.some.injEq, Prod.mk.injEq] at h
  obtain ⟨rfl, rfl, rfl, rfl⟩ := h
  exact (impl_MiddlePoint.gives ⟨a0_0, a0_1⟩ ⟨a1_0, a1_1⟩).calls rfl rfl w
def impl_LatOf.f (a0_0 : Int) (a0_1 : Int) : Option (Int × Int) := some ((Go.G880.impl_LatOf ⟨a0_0, a0_1⟩).lo, (Go.G880.impl_LatOf ⟨a0_0, a0_1⟩).hi)
theorem impl_LatOf.calls (a0_0 : Int) (a0_1 : Int) (r1 : Int) (r2 : Int) (w : World) (h : impl_LatOf.f a0_0 a0_1 = some (r1, r2)) :
    Calls Tryz.prog 31 #[.agg #[.int .i64 a0_0, .int .i64 a0_1]] w fun e w' => e = .returned (.agg #[.int .i64 r1, .int .i64 r2]) ∧ Below w.heap.size w w' := by
  simp only [impl_LatOf.f, Option.some.injEq, Prod.mk.injEq] at h
  obtain ⟨rfl, rfl⟩ := h
  exact (impl_LatOf.gives ⟨a0_0, a0_1⟩).calls rfl rfl w
def impl_LonOf.f (a0_0 : Int) (a0_1 : Int) : Option (Int × Int) := some ((Go.G880.impl_LonOf ⟨a0_0, a0_1⟩).lo, (Go.G880.impl_LonOf ⟨a0_0, a0_1⟩).hi)
theorem impl_LonOf.calls (a0_0 : Int) (a0_1 : Int) (r1 : Int) (r2 : Int) (w : World) (h : impl_LonOf.f a0_0 a0_1 = some (r1, r2)) :
    Calls Tryz.prog 32 #[.agg #[.int .i64 a0_0, .int .i64 a0_1]] w fun e w' => e = .returned (.agg #[.int .i64 r1, .int .i64 r2]) ∧ Below w.heap.size w w' := by
  simp only [impl_LonOf.f, Option.some.injEq, Prod.mk.injEq] at h
  obtain ⟨rfl, rfl⟩ := h
  exact (impl_LonOf.gives ⟨a0_0, a0_1⟩).calls rfl rfl w
def laws_d8Size.f (a0 : Int) : Option (Int) := if a0 < 0 then (some (wrap64 (-a0))) else (some a0)
set_option maxHeartbeats 8000000 in
set_option maxRecDepth 100000 in
theorem laws_d8Size.calls (a0 : Int) (r : Int) (w : World) (h : laws_d8Size.f a0 = some r) :
    Calls Tryz.prog 33 #[.int .i64 a0] w fun e w' => e = .returned (.int .i64 r) ∧ Drawn0 w w' := by
  have H : (if a0 < 0 then (some (wrap64 (-a0))) else (some a0)) = some r := h
  clear h
  by_cases c2 : a0 < 0
  · rw [if_pos c2] at H
    have c2b0 : decide (a0 < 0) = true := decide_eq_true c2
    clear c2
    obtain rfl := Option.some.inj H
    go_enter Tryz.func33, Tryz.ntmps33
    go_wp2
    go_ret
    exact ⟨by first | rfl | (simp; done) | (simp [*]; done), by repeat (first | exact Drawn0.refl _ | apply Drawn0.step)⟩
  · rw [if_neg c2] at H
    have c2b0 : decide (a0 < 0) = false := decide_eq_false c2
    clear c2
    obtain rfl := Option.some.inj H
    go_enter Tryz.func33, Tryz.ntmps33
    go_wp2
    go_ret
    exact ⟨by first | rfl | (simp; done) | (simp [*]; done), by repeat (first | exact Drawn0.refl _ | apply Drawn0.step)⟩
def impl_AtPoint.f (a0_0 : Int) (a0_1 : Int) (a1_0 : Int) (a1_1 : Int) (a2_0 : Int) (a2_1 : Int) : Option (Bool) := some (Go.G880.impl_AtPoint ⟨a0_0, a0_1⟩ ⟨a1_0, a1_1⟩ ⟨a2_0, a2_1⟩)
theorem impl_AtPoint.calls (a0_0 : Int) (a0_1 : Int) (a1_0 : Int) (a1_1 : Int) (a2_0 : Int) (a2_1 : Int) (r : Bool) (w : World) (h : impl_AtPoint.f a0_0 a0_1 a1_0 a1_1 a2_0 a2_1 = some r) :
    Calls Tryz.prog 34 #[.agg #[.int .i64 a0_0, .int .i64 a0_1], .agg #[.int .i64 a1_0, .int .i64 a1_1], .agg #[.int .i64 a2_0, .int .i64 a2_1]] w fun e w' => e = .returned (.bool r) ∧ Below w.heap.size w w' := by
  obtain rfl := Option.some.inj h
  exact (impl_AtPoint.gives ⟨a0_0, a0_1⟩ ⟨a1_0, a1_1⟩ ⟨a2_0, a2_1⟩).calls rfl rfl w
end Go.Proofs.YtogpbandlpjccaaGreatDoor.TX
