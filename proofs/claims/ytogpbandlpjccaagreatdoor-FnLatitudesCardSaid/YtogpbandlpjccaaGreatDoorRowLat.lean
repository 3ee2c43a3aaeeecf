/- The row of FnLatitudes: it returns true for every input, and leaves its arguments and its table as they were. No condition but what the table holds when the call begins (tied by the card). -/
import Derived.Test.YtogpbandlpjccaaGreatDoorZL
import Derived.Test.YtogpbandlpjccaaGreatDoorRxS
import Derived.Test.YtogpbandlpjccaaGreatDoorRows
import Derived.Test.YtogpbandlpjccaaGreatDoorChecked
import Derived.LaidMore
import Derived.OpenVars
import Derived.Stop.Joined
set_option linter.unusedSimpArgs false
set_option linter.unusedVariables false
namespace Go.Proofs.YtogpbandlpjccaaGreatDoor
open Go Go.RX Go.G880 Go.Proofs.YtogpbandlpjccaaGreatDoor.TX Go.ChangeShapes Go.WideShapes Go.ChangeAt Go.WideMaps Go.WideElems Go.RowKit
theorem own : ownKnob Tryz.prog.godebug = none := by kernel_rfl
theorem gNames : Tryz.prog.globalNamed "loop.example/g00880/impl.latitudeNames" = some 0 := by kernel_rfl
theorem tNames : (Tryz.prog.globals[0]?).map (·.type) = some 83 := by kernel_rfl
abbrev laidT : List (String × DataW Unit) := [("loop.example/g00880/impl.latitudeNames", Rows.laid_loop_example_g00880_impl_latitudeNames)]
theorem door_met (os : Os) (args : Array Value) : laidMetH Tryz.prog laidT ((World.doorLaid Tryz.prog 400 os).forCall (fun _ _ => 0) ⟨#[], args, []⟩).memory :=
 laidMetH_of_parts3 (fuel := 8) (laidMet_of_run' 8 (by kernel_rfl) (by kernel_rfl)) (by kernel_rfl) (by kernel_rfl)
theorem ba_of (bs : ByteArray) (l : List UInt8) (h : l = bs.data.toList) : bs = ⟨⟨l⟩⟩ := by cases bs with | mk d => cases d with | mk l' => simp only at h; rw [h]
theorem of_laid {W : World} (h : laidMetH Tryz.prog laidT W) : Table W := by
 rw [MakeChecks.laidMetH_plain _ _ _ (by kernel_rfl)] at h
 obtain ⟨ps, ⟨g0, t0, cs0, f0, p0, q0, hg0, ht0, hv0, hd0, _, _⟩, _, _⟩ := h
 obtain rfl := Option.some.inj (gNames.symm.trans hg0)
 obtain rfl := Option.some.inj (tNames.symm.trans ht0)
 obtain ⟨xs, m1, rfl, hx1, hlen, hn, hel⟩ := DataW.trod_array Tryz.underlying83 hd0
 have c9 : Tryz.prog.cellsOf 9 = 1 := by kernel_rfl
 simp only [Rows.laid_loop_example_g00880_impl_latitudeNames, Prod.mk.injEq, DataW.agg.injEq] at hx1
 have key : ∀ i, i < 7 → ∃ bs : ByteArray, (cs0.toList)[i]? = some (.string bs) ∧ (xs[i]?).map (·.1) = some (.lit (.string bs.data.toList)) := by
  intro i hi
  have hi' := hel i hi
  rw [c9, Nat.mul_one] at hi'
  have hx : xs[i]? = some xs[i] := List.getElem?_eq_getElem (by omega)
  rw [hx] at hi'
  obtain ⟨bs, e1, e2, _⟩ := DataW.trod_string Tryz.underlying9 hi'
  refine ⟨bs, ?_, by rw [hx, e2]; rfl⟩
  have := congrArg (·[0]?) e1
  simpa [List.getElem?_take, List.getElem?_drop] using this
 intro i hi
 obtain ⟨bs, e1, e2⟩ := key i hi
 rw [World.var?_cell hg0 hv0 i, ← Array.getElem?_toList, e1]
 rw [← List.getElem?_map, ← hx1.1] at e2
 match i, hi, e2 with
 | 0, _, e2 =>
  simp only [List.getElem?_cons_zero, List.getElem?_cons_succ, Option.some.injEq, DataW.lit.injEq, Lit.string.injEq] at e2
  rw [ba_of bs _ e2]
  rfl
 | 1, _, e2 =>
  simp only [List.getElem?_cons_zero, List.getElem?_cons_succ, Option.some.injEq, DataW.lit.injEq, Lit.string.injEq] at e2
  rw [ba_of bs _ e2]
  rfl
 | 2, _, e2 =>
  simp only [List.getElem?_cons_zero, List.getElem?_cons_succ, Option.some.injEq, DataW.lit.injEq, Lit.string.injEq] at e2
  rw [ba_of bs _ e2]
  rfl
 | 3, _, e2 =>
  simp only [List.getElem?_cons_zero, List.getElem?_cons_succ, Option.some.injEq, DataW.lit.injEq, Lit.string.injEq] at e2
  rw [ba_of bs _ e2]
  rfl
 | 4, _, e2 =>
  simp only [List.getElem?_cons_zero, List.getElem?_cons_succ, Option.some.injEq, DataW.lit.injEq, Lit.string.injEq] at e2
  rw [ba_of bs _ e2]
  rfl
 | 5, _, e2 =>
  simp only [List.getElem?_cons_zero, List.getElem?_cons_succ, Option.some.injEq, DataW.lit.injEq, Lit.string.injEq] at e2
  rw [ba_of bs _ e2]
  rfl
 | 6, _, e2 =>
  simp only [List.getElem?_cons_zero, List.getElem?_cons_succ, Option.some.injEq, DataW.lit.injEq, Lit.string.injEq] at e2
  rw [ba_of bs _ e2]
  rfl
theorem calls {a0 a1 : List Value} (w0 : bytesOk a0 = true) (w1 : bytesOk a1 = true) {W : World} (hT : Table W) {xs : List Value} (hr : ∃ q, Ready W [(aL (.int .u8 0) 5).enc a0, (aL (.int .u8 0) 5).enc a1] xs q) :
  Calls Tryz.prog 3 xs.toArray W fun e w' => e = .returned (.bool true) ∧ Below W.heap.size W w' := by
 have hp : (bytesOk a0 && bytesOk a1) = true := by rw [w0, w1]; rfl
 have h := laws_FnLatitudes.gives a0 a1 hp
 rw [fnLatitudes_true hp] at h
 exact GivesAU.calls h rfl hT hr
theorem bytes {rows : List Value} (h : ∀ x ∈ rows, 0 ≤ cI x ∧ cI x ≤ 255) : bytesOk rows = true := by
 simp only [bytesOk, List.all_eq_true, Bool.and_eq_true, decide_eq_true_eq]
 exact h
set_option maxRecDepth 100000 in
theorem lifted (os : Os) (started : os.Started) (H : Type) (enc : TypeId × Value → H) :
  ReturnsInHanded {} Tryz.checked os 3 .any (fun w args => (Rows.fnLatitudesSpec.pre enc Tryz.prog Tryz.f3 [] false w args ∧ laidMetH Tryz.prog laidT w) ∧ sizedMet enc Tryz.prog Tryz.f3 (OpenSpec.ofChange Rows.fnLatitudesSpec) false w args)
   (Rows.fnLatitudesSpec.post enc Tryz.prog Tryz.f3 false true false false) := by
 refine returnsInHanded_of_change_and (C := Tryz.checked) (X := fun w _ => laidMetH Tryz.prog laidT w) (fun _ _ _ hh h => h.of_heap hh) own started (by kernel_rfl) Tryz.func3
  (ChangeSpec.witness_shaped (enc := enc) (C := Tryz.checked) (os := os) (X := fun w _ => laidMetH Tryz.prog laidT w) false (World.doorLaid Tryz.prog 400 os) #[.slice none 0 0, .slice none 0 0] 8 rfl (World.shaped_of_RefB (by kernel_rfl) (by kernel_rfl)) (by kernel_rfl) (by kernel_rfl) (by kernel_rfl) (door_met os _)) ?_
 intro W base args ds gs before hval0 hW _ _ hL _
 have hval : ∀ (j : Nat) t v, Tryz.f3.params[j]? = some t → args[j]? = some v → Value.okWide Tryz.prog W .any base t v := hval0
 have hW' := hW
 obtain ⟨p, q, hA0, hV, rfl, hfz, hnd⟩ := hW
 have hA : DataW.TrodAll enc Tryz.prog W 0 (fun _ => true) true Tryz.f3.params.toList args.toList ds p := hA0
 rw [Tryz.params3] at hA hval
 obtain ⟨v0, vs0, d0, ds0, p0, q0, hargs, rfl, rfl, h0, r0⟩ := trodAll_cons hA
 obtain ⟨v1, vs1, d1, ds1, p1, q1, rfl, rfl, rfl, h1, r1⟩ := trodAll_cons r0
 obtain ⟨rfl, rfl, rfl⟩ := trodAll_nil r1
 obtain rfl : args = #[v0, v1] := by cases args; simp_all
 obtain ⟨g, t, cs, fuel, d, pv, rfl, hg, ht, hv, hd, rfl⟩ := trodVars_one hV
 have s0 := h0
 obtain ⟨a0, pl0, rfl, l0, k0, w0⟩ := openB Tryz.underlying22 Tryz.underlying5 (by kernel_rfl) (hval 0 22 v0 rfl rfl) h0
 have s1 := h1
 obtain ⟨a1, pl1, rfl, l1, k1, w1⟩ := openB Tryz.underlying22 Tryz.underlying5 (by kernel_rfl) (hval 1 22 v1 rfl rfl) h1
 have hT := of_laid hL
 clear hA0 hval0
 have lt0 : ∀ x ∈ p0, x.block < W.heap.size := fun x hx => hW'.lt x (by simp [hx])
 have lt1 : ∀ x ∈ p1, x.block < W.heap.size := fun x hx => hW'.lt x (by simp [hx])
 refine (calls (bytes w0) (bytes w1) hT (Ready.l l0 k0 (Ready.l l1 k1 (Ready.nil W)))).mono fun e W' ⟨he, bel⟩ => ?_
 subst he
 exact ⟨_, rfl, _, _, _, [], _, _, hW', trodAll_mk1 (shut_bool Tryz.underlying4 _), (trodAll_cons_mk (Below.trod (by kernel_rfl) (by kernel_rfl) (of_decide_eq_true (by kernel_rfl)) s0 bel lt0) (trodAll_cons_mk (Below.trod (by kernel_rfl) (by kernel_rfl) (of_decide_eq_true (by kernel_rfl)) s1 bel lt1) trodAll_mk0)), Below.trodVars (by kernel_rfl) bel (by kernel_rfl) hV, bel.frame _, fun h => by cases h⟩
theorem fnLatitudes_row : Rows.FnLatitudesSaid :=
 OpenClaim.holds_of_wide 3 Tryz.f3 rfl rfl rfl rfl rfl rfl rfl ⟨rfl, rfl, rfl, rfl, rfl⟩ rfl rfl rfl rfl rfl (by kernel_rfl) Tryz.func3 (by kernel_rfl)
  (of_decide_eq_true (by kernel_rfl)) (by unfold Func.isWrapper; first | (rw [if_pos (by decide +kernel)]; kernel_rfl) | (rw [if_neg (by decide +kernel)]; exact ⟨rfl, rfl⟩))
  (fun os started H enc _ => lifted os started H enc)
end Go.Proofs.YtogpbandlpjccaaGreatDoor
