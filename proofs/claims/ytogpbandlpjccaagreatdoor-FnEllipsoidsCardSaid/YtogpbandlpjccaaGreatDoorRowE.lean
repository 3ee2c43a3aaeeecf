/- The law of the ellipsoids answers yes, for all bytes. -/
import Derived.Test.YtogpbandlpjccaaGreatDoorGE
import Derived.Test.YtogpbandlpjccaaGreatDoorEE
import Derived.Deep.Slices
import Derived.Test.YtogpbandlpjccaaGreatDoorRows
import Derived.Test.YtogpbandlpjccaaGreatDoorChecked
import Derived.Lay
import Derived.Handed
import Derived.LaidMore
import Derived.HandedShaped
import Derived.ShapedOpen
import Derived.Stop.Joined
import Derived.Stop.LaidErr
set_option linter.unusedVariables false
set_option linter.unusedSimpArgs false
namespace Go.Proofs.YtogpbandlpjccaaGreatDoor
open Go Go.RX Go.G880 Go.G880.Re Go.Rl
theorem less_no {e : El} (v : impl_ValidEllipsoid e = true) : (spec_LessI (impl_MajorI e) (impl_MinorI e) == 1) = false := by
 have g := good_of v
 have a := MajorJ v g
 have b := MinorJ v
 have m := maj_pos g
 have f := flat_rng g
 have mf := R.mul_nn (a := maj e) (b := flat e) (by grind) f.1
 unfold spec_LessI
 cases ka : spec_l04Ok (impl_MajorI e)
 ·rfl
 cases kb : spec_l04Ok (impl_MinorI e)
 ·rfl
 have ia := a ka
 have ib := b kb
 unfold In at ia ib
 have le : (impl_MinorI e).lo ≤ (impl_MajorI e).hi := fR_le.1 (by grind)
 simp only [Bool.not_true, cond_false]
 rw [decide_eq_false (show ¬ (impl_MajorI e).hi < (impl_MinorI e).lo by omega), cond_false]
 cases decide ((impl_MajorI e).lo ≥ (impl_MinorI e).hi) <;> rfl
theorem fnEllipsoids_true {d i : List Value} (hpre : (TX.bytesOk d && TX.bytesOk i) = true) : laws_FnEllipsoids d i = true := by
 unfold laws_FnEllipsoids
 cases hl : laws_a2Long d i
 case true => rfl
 have v := TX.pd_ell1 hpre hl
 have po := TX.pts_ok (TX.pd_okA2 hpre hl) _ (.inl rfl)
 have pv : spec_l11Ok (TX.spec_A2Points i).1 = true := (l11Ok_iff _).2 (by omega)
 have lat := lat_in po.1 pv
 simp only [cond_false]
 generalize TX.spec_A2Ellipsoid d = e at *
 have rt := read_text v
 have ao := arc_ok v lat
 generalize spec_LatOf (TX.spec_A2Points i).1 = X at *
 generalize spec_LatOf (TX.spec_A2Points i).2.1 = Y
 rw [less_no v]
 simp only [cond_false, law_ecc v, law_third v, law_N0 v, law_pole v, law_M0 v, law_odd v, law_rise v, Bool.not_true]
 rw [rt.2]
 simp only [cond_true, beq_self_eq_true, Bool.and_self, spec_IsWhole, ao, Bool.not_true, Bool.not_false]
end Go.Proofs.YtogpbandlpjccaaGreatDoor
/- Rows: an argument that is a slice of bytes, opened. -/
set_option linter.unusedSimpArgs false
set_option linter.unusedVariables false
namespace Go.RX
open Go.ChangeShapes Go.WideShapes Go.ChangeAt Go.RowKit
section
variable {H : Type} {enc : TypeId × Value → H} {P : Program} {w : World} {base b0 : Nat} {r : Reach} {held : Bool} {t e : TypeId} {v : Value} {d : DataW H} {p : List MemPlace}
theorem openB (hs : P.underlying t = some (.slice e)) (he : P.underlying e = some (.int .u8)) (hc1 : P.cellsOf e = 1) (hv : Value.okWide P w r b0 t v) (h : DataW.Trod enc P w base (fun _ => true) held t v d p) :
  ∃ (rows : List Value) (pl : Pl), v = .slice pl.ha pl.hl pl.hc ∧ Lst pl (.int .u8 0) rows false e w ∧ (∀ k, pl.adr = some k → k < w.heap.size) ∧ ∀ x ∈ rows, 0 ≤ cI x ∧ cI x ≤ 255 := by
 obtain ⟨a0, len0, cap0, rfl⟩ := okWide_slice hs hv
 obtain ⟨fuel, hf⟩ := h
 rcases Go.Deep.open_slice hs hf with ⟨hc, hx⟩ | ⟨a, len, cap, m, n, D, Pq, hc, hb, hl, hm, hmm, hx, hcell⟩
 ·simp [Value.cells] at hc
  obtain ⟨rfl, rfl, rfl⟩ := hc
  refine ⟨[], ⟨none, none, 0, 0, 1⟩, rfl, ⟨rfl, fun r hr => by simp at hr, Nat.zero_lt_one, Nat.le_refl _, rfl, Or.inl ⟨rfl, rfl, fun hh => by cases hh⟩, fun hh => by cases hh⟩, (fun k hk => by cases hk), fun x hx => by simp at hx⟩
 ·simp only [Value.cells, List.cons.injEq, Value.slice.injEq, and_true] at hc
  obtain ⟨rfl, rfl, rfl⟩ := hc
  simp only [if_true] at hmm
  subst hmm
  have hcell' : ∀ i, i < m → ∃ n0 : Int, w.cell? (a.add i) = some (.int .u8 n0) ∧ 0 ≤ n0 ∧ n0 ≤ 255 := by
   intro i hi
   obtain ⟨cs', h1, h2⟩ := hcell i hi
   obtain ⟨n0, rfl, _, hw⟩ := DataW.trod_int he h2
   rw [hc1] at h1
   obtain ⟨_, _, h3⟩ := World.cells?_some h1
   have h4 := h3 0 (by omega)
   rw [Nat.mul_one] at h4
   have e0 : (a.add i).add 0 = a.add i := by simp [Addr.add]
   rw [e0] at h4
   simp only [Lit.wf, Bool.and_eq_true, decide_eq_true_eq] at hw
   exact ⟨n0, h4, hw⟩
  by_cases h0 : len0 = 0
  ·subst h0
   refine ⟨[], ⟨none, some a, 0, m, 1⟩, rfl, ⟨rfl, fun r hr => by simp at hr, Nat.zero_lt_one, Nat.zero_le _, rfl, Or.inl ⟨rfl, rfl, fun hh => by cases hh⟩, fun hh => by cases hh⟩, (fun k hk => by cases hk), fun x hx => by simp at hx⟩
  ·obtain ⟨k, o, sp⟩ := a
   obtain ⟨z0, hz0, _⟩ := hcell' 0 (by omega)
   have hsp := World.cell?_spot hz0
   simp [Addr.add] at hsp
   subst hsp
   obtain ⟨c, ty, fz, hk, _⟩ := cell_block (k := k) (o := o + 0) hz0
   have hat : ∀ j, j < m → ∃ n0 : Int, (c.toList.drop o)[j]? = some (.int .u8 n0) ∧ 0 ≤ n0 ∧ n0 ≤ 255 := by
    intro j hj
    obtain ⟨n0, h1, h2⟩ := hcell' j hj
    rw [Go.WideShapes.add_plain] at h1
    obtain ⟨c', ty', fz', hk', hcj⟩ := cell_block (k := k) (o := o + j) h1
    rw [hk] at hk'
    simp only [Option.some.injEq, Obj.cells.injEq] at hk'
    refine ⟨n0, ?_, h2⟩
    rw [hk'.1, List.getElem?_drop, Array.getElem?_toList]
    exact hcj
   have hkl : k < w.heap.size := (Array.getElem?_eq_some_iff.1 hk).1
   have hlen : ((c.toList.drop o).take len0).length = len0 := by
    obtain ⟨_, h1, _⟩ := hat (len0 - 1) (by omega)
    have := (List.getElem?_eq_some_iff.1 h1).1
    rw [List.length_take]
    omega
   have hmem : ∀ x ∈ (c.toList.drop o).take len0, ∃ n0 : Int, x = .int .u8 n0 ∧ 0 ≤ n0 ∧ n0 ≤ 255 := by
    intro x hx
    obtain ⟨j, hj⟩ := List.getElem?_of_mem hx
    have hjl := (List.getElem?_eq_some_iff.1 hj).1
    rw [hlen] at hjl
    rw [List.getElem?_take_of_lt hjl] at hj
    obtain ⟨n0, h1, h2⟩ := hat j (by omega)
    rw [h1] at hj
    exact ⟨n0, (Option.some.inj hj).symm, h2⟩
   have hflat : ∀ l : List Value, (∀ x ∈ l, ∃ n0 : Int, x = .int .u8 n0 ∧ 0 ≤ n0 ∧ n0 ≤ 255) → flat l = l := by
    intro l
    induction l with
    | nil => intro _; rfl
    | cons x l ih =>
     intro hh
     obtain ⟨n0, rfl, _⟩ := hh x (by simp)
     show (Value.int .u8 n0).cells.toList ++ flat l = _
     rw [ih fun y hy => hh y (by simp [hy])]
     rfl
   refine ⟨(c.toList.drop o).take len0, ⟨some k, some ⟨k, o, none⟩, len0, m, 1⟩, rfl, ⟨hlen.symm, fun x hx => ?_, Nat.zero_lt_one, hl, rfl, Or.inr ⟨k, o, c, ty, fz, rfl, rfl, hk, ?_⟩, fun hh => by cases hh⟩, fun k' hk' => ?_, fun x hx => ?_⟩
   ·obtain ⟨n0, rfl, _⟩ := hmem x hx
    exact ⟨rfl, rfl, fun y hy => by simp [Value.cells] at hy; subst hy; rfl⟩
   ·rw [hflat _ hmem, hlen, Nat.mul_one]
   ·simp only [Option.some.injEq] at hk'
    omega
   ·obtain ⟨n0, rfl, h2⟩ := hmem x hx
    exact h2
end
end Go.RX
/- The row of FnEllipsoids: it returns true for every input, and leaves its arguments as they were. The package variables of Go's library that the row lists start as its text lays them (tied by the card). -/
set_option linter.unusedSimpArgs false
set_option linter.unusedVariables false
namespace Go.Proofs.YtogpbandlpjccaaGreatDoor.RE
open Go.ChangeShapes Go.WideShapes Go.ChangeAt Go.RowKit Go.Proofs.YtogpbandlpjccaaGreatDoor.TX
theorem wrapX {H : Type} {enc : TypeId × Value → H} {a : Assume} {C : Checked} {os : Os} {f : FuncId} {fn : Func} {s : ChangeSpec} {conds : List PathCond} {apart fresh handsOn again : Bool} {X : World → Array Value → Prop}
  (hX : ∀ (w w' : World) (args : Array Value), w.heap = w'.heap → X w args → X w' args)
  (own : ownKnob C.prog.godebug = none) (started : os.Started) (noInit : C.prog.inits.idxOf? f = none) (hfn : C.prog.funcs[f]? = some fn)
  (witness : ∃ (w : World) (tape : Tape) (i : Input), w.os = os ∧ (w.forCall tape i).Shaped C.prog ∧ i.vars = [] ∧ Input.okWide C.prog (w.forCall tape i) .any w.heap.size f i ∧
   ((s.pre enc C.prog fn conds apart (w.forCall tape i).memory i.args ∧ X (w.forCall tape i).memory i.args) ∧ sizedMet enc C.prog fn (OpenSpec.ofChange s) apart (w.forCall tape i).memory i.args) ∧ a.holds C.prog (lone (Frame.enter C.prog f i.args .normal) [] (w.forCall tape i)))
  (contract : ∀ (W : World) (base : Nat) (args : Array Value) (ds gs : List (DataW H)) (before : List MemPlace),
   (∀ (j : Nat) t v, fn.params[j]? = some t → args[j]? = some v → Value.okWide C.prog W .any base t v) →
   DataW.Whole enc C.prog fn.params.toList s.vars apart W args.toList ds gs before → X W args → W.ShapedOpen C.prog →
   Calls C.prog f args W fun e W' => ∃ v, e = .returned v ∧ s.post enc C.prog fn apart fresh handsOn again W args v W') :
  ReturnsInHanded a C os f .any (fun w args => (s.pre enc C.prog fn conds apart w args ∧ X w args) ∧ sizedMet enc C.prog fn (OpenSpec.ofChange s) apart w args) (s.post enc C.prog fn apart fresh handsOn again) := by
 refine returnsInHanded_of_calls own started noInit witness ?_
 intro w tape i _ hsh _ hok hpre hholds
 obtain ⟨_, _, _, fn', hfn', _, _, _, _, hval⟩ := hok
 have e : fn' = fn := Option.some.inj (hfn'.symm.trans hfn)
 subst e
 obtain ⟨⟨⟨ds, gs, before, hw, hc⟩, hx⟩, hz⟩ := hpre
 have hw' := DataW.Whole.of_heap (w' := w.forCall tape i) (by rfl) hw
 refine (contract (w.forCall tape i) w.heap.size i.args ds gs before hval hw' (hX _ _ _ (by rfl) hx) hsh).mono fun e W' ⟨v, he, hp⟩ => ?_
 subst he
 exact ChangeSpec.post_blind hp
theorem own : ownKnob Tryz.prog.godebug = none := by kernel_rfl
theorem g5 : Tryz.prog.globalNamed "internal/strconv.uint64pow10" = some 6 := by kernel_rfl
theorem t5g : (Tryz.prog.globals[6]?).map (·.type) = some 203 := by kernel_rfl
theorem c126 : Tryz.prog.cellsOf 203 = 20 := by kernel_rfl
theorem c95 : Tryz.prog.cellsOf 104 = 1 := by kernel_rfl
theorem tab_of {x y : String × DataW Unit} {rest : List (String × DataW Unit)} {W : World} (h : laidMet Tryz.prog (x :: y :: ("internal/strconv.uint64pow10", Rows.laid_internal_strconv_uint64pow10) :: rest) W) :
  Lib.TabIs Tryz.prog W "internal/strconv.uint64pow10" .u64 Lib.pow10Tab :=
 Lib.tabIs_of_head g5 t5g Tryz.underlying203 Tryz.underlying104 c95 c126 (show laidMet Tryz.prog (("internal/strconv.uint64pow10", Lib.tabData .u64 Lib.pow10Tab) :: rest) W from h.tail.tail)
theorem size_of_tab {W : World} (h : Lib.TabIs Tryz.prog W "internal/strconv.uint64pow10" .u64 Lib.pow10Tab) : 3 ≤ W.heap.size := by
 have hc := h.cell g5 0 (by decide)
 unfold World.cell? at hc
 split at hc
 ·rename_i hb
  have := (Array.getElem?_eq_some_iff.1 hb).1
  have h5 : 6 < W.heap.size := this
  omega
 ·cases hc
theorem ok_plain {x y : String × DataW Unit} {rest : List (String × DataW Unit)} {W : World} (h : laidMet Tryz.prog (x :: y :: ("internal/strconv.uint64pow10", Rows.laid_internal_strconv_uint64pow10) :: rest) W) (hsh : W.ShapedOpen Tryz.prog) : Ok_ false W := by
 have ht := tab_of h
 exact ⟨Lib.tabBelow_of_tabIs ht, size_of_tab ht, Tryz.laysM145.s1_3 W hsh, fun h => by cases h⟩
end Go.Proofs.YtogpbandlpjccaaGreatDoor.RE
namespace Go.Proofs.YtogpbandlpjccaaGreatDoor.RE
open Go Go.RX Go.G880 Go.Proofs.YtogpbandlpjccaaGreatDoor.TX Go.ChangeShapes Go.WideShapes Go.ChangeAt Go.WideMaps Go.WideElems Go.RowKit
abbrev laidT : List (String × DataW Unit) := [("math/bits.deBruijn32tab", Rows.laid_math_bits_deBruijn32tab), ("math/bits.deBruijn64tab", Rows.laid_math_bits_deBruijn64tab), ("internal/strconv.uint64pow10", Rows.laid_internal_strconv_uint64pow10), ("strconv.ErrRange", Rows.laid_strconv_ErrRange), ("strconv.ErrSyntax", Rows.laid_strconv_ErrSyntax)]
theorem door_met (os : Os) (args : Array Value) : laidMetH Tryz.prog laidT ((World.doorLaid Tryz.prog 400 os).forCall (fun _ _ => 0) ⟨#[], args, []⟩).memory :=
 laidMetH_of_parts3 (fuel := 8) (laidMet_of_run' 8 (by kernel_rfl) (by kernel_rfl)) (by kernel_rfl) (by kernel_rfl)
theorem ok_of {W : World} (h : laidMetH Tryz.prog laidT W) (hsh : W.ShapedOpen Tryz.prog) : Ok_ false W := by
 rw [MakeChecks.laidMetH_plain _ _ _ (by kernel_rfl)] at h
 exact ok_plain h hsh
theorem calls {a0 a1 : List Value} (w0 : bytesOk a0 = true) (w1 : bytesOk a1 = true) {W : World} (hT : Ok_ false W) {xs : List Value} (hr : ∃ q, Ready W [(aL (.int .u8 0) 5).enc a0, (aL (.int .u8 0) 5).enc a1] xs q) :
  Calls Tryz.prog 5 xs.toArray W fun e w' => e = .returned (.bool true) ∧ Below W.heap.size W w' := by
 have hp : (bytesOk a0 && bytesOk a1) = true := by rw [w0, w1]; rfl
 have h := laws_FnEllipsoids.gives a0 a1 hp
 rw [fnEllipsoids_true hp] at h
 exact GivesAU.calls h rfl hT hr
theorem bytes {rows : List Value} (h : ∀ x ∈ rows, 0 ≤ cI x ∧ cI x ≤ 255) : bytesOk rows = true := by
 simp only [bytesOk, List.all_eq_true, Bool.and_eq_true, decide_eq_true_eq]
 exact h
set_option maxRecDepth 100000 in
theorem lifted (os : Os) (started : os.Started) (H : Type) (enc : TypeId × Value → H) :
  ReturnsInHanded {} Tryz.checked os 5 .any (fun w args => (Rows.fnEllipsoidsSpec.pre enc Tryz.prog Tryz.f5 [] false w args ∧ laidMetH Tryz.prog laidT w) ∧ sizedMet enc Tryz.prog Tryz.f5 (OpenSpec.ofChange Rows.fnEllipsoidsSpec) false w args)
   (Rows.fnEllipsoidsSpec.post enc Tryz.prog Tryz.f5 false true false false) := by
 refine wrapX (C := Tryz.checked) (X := fun w _ => laidMetH Tryz.prog laidT w) (fun _ _ _ hh h => h.of_heap hh) own started (by kernel_rfl) Tryz.func5
  (ChangeSpec.witness_shaped (enc := enc) (C := Tryz.checked) (os := os) (X := fun w _ => laidMetH Tryz.prog laidT w) false (World.doorLaid Tryz.prog 400 os) #[.slice none 0 0, .slice none 0 0] 8 rfl (World.shaped_of_RefB (by kernel_rfl) (by kernel_rfl)) (by kernel_rfl) (by kernel_rfl) (by kernel_rfl) (door_met os _)) ?_
 intro W base args ds gs before hval0 hW hL hsh
 have hval : ∀ (j : Nat) t v, Tryz.f5.params[j]? = some t → args[j]? = some v → Value.okWide Tryz.prog W .any base t v := hval0
 have hW' := hW
 obtain ⟨p, q, hA0, hV, rfl, hfz, hnd⟩ := hW
 have hA : DataW.TrodAll enc Tryz.prog W 0 (fun _ => true) true Tryz.f5.params.toList args.toList ds p := hA0
 rw [Tryz.params5] at hA hval
 obtain ⟨v0, vs0, d0, ds0, p0, q0, hargs, rfl, rfl, h0, r0⟩ := trodAll_cons hA
 obtain ⟨v1, vs1, d1, ds1, p1, q1, rfl, rfl, rfl, h1, r1⟩ := trodAll_cons r0
 obtain ⟨rfl, rfl, rfl⟩ := trodAll_nil r1
 obtain rfl : args = #[v0, v1] := by cases args; simp_all
 obtain ⟨rfl, rfl⟩ := trodVars_none hV
 have s0 := h0
 obtain ⟨a0, pl0, rfl, l0, k0, w0⟩ := openB Tryz.underlying22 Tryz.underlying5 (by kernel_rfl) (hval 0 22 v0 rfl rfl) h0
 have s1 := h1
 obtain ⟨a1, pl1, rfl, l1, k1, w1⟩ := openB Tryz.underlying22 Tryz.underlying5 (by kernel_rfl) (hval 1 22 v1 rfl rfl) h1
 have hT := ok_of hL hsh
 clear hA0 hval0
 have lt0 : ∀ x ∈ p0, x.block < W.heap.size := fun x hx => hW'.lt x (by simp [hx])
 have lt1 : ∀ x ∈ p1, x.block < W.heap.size := fun x hx => hW'.lt x (by simp [hx])
 refine (calls (bytes w0) (bytes w1) hT (Ready.l l0 k0 (Ready.l l1 k1 (Ready.nil W)))).mono fun e W' ⟨he, bel⟩ => ?_
 subst he
 exact ⟨_, rfl, _, _, _, [], _, [], hW', trodAll_mk1 (shut_bool Tryz.underlying4 _), (trodAll_cons_mk (Below.trod (by kernel_rfl) (by kernel_rfl) (of_decide_eq_true (by kernel_rfl)) s0 bel lt0) (trodAll_cons_mk (Below.trod (by kernel_rfl) (by kernel_rfl) (of_decide_eq_true (by kernel_rfl)) s1 bel lt1) trodAll_mk0)), rfl, bel.frame _, fun h => by cases h⟩
theorem row : Rows.FnEllipsoidsSaid :=
 OpenClaim.holds_of_wide 5 Tryz.f5 rfl rfl rfl rfl rfl rfl rfl ⟨rfl, rfl, rfl, rfl, rfl⟩ rfl rfl rfl rfl rfl (by kernel_rfl) Tryz.func5 (by kernel_rfl)
  (of_decide_eq_true (by kernel_rfl)) (by unfold Func.isWrapper; first | (rw [if_pos (by decide +kernel)]; kernel_rfl) | (rw [if_neg (by decide +kernel)]; exact ⟨rfl, rfl⟩))
  (fun os started H enc _ => lifted os started H enc)
end Go.Proofs.YtogpbandlpjccaaGreatDoor.RE
