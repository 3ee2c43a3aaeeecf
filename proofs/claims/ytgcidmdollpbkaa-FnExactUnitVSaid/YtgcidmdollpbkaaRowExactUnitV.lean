/- The law FnExactUnitV returns true for every input, and leaves its arguments as they were. No condition. -/
import Derived.Test.YtgcidmdollpbkaaRows
import Derived.Test.YtgcidmdollpbkaaGExactUnitV
import Derived.Test.YtgcidmdollpbkaaRxG
import Derived.Test.YtgcidmdollpbkaaP10
namespace Go.Proofs.Ytgcidmdollpbkaa.fnExactUnitV
open Go Go.RX Go.G880 Go.ChangeShapes Go.WideShapes Go.ChangeAt Go.RowKit
set_option linter.unusedVariables false
theorem own : ownKnob Try.prog.godebug = none := by kernel_rfl
theorem calls (a0 : V3) (w0 : a0.In) (W : World) : Calls Try.prog 9 [cV3.enc a0].toArray W fun e w' => e = .returned (.bool true) ∧ Below W.heap.size W w' := by
  have h := laws_FnExactUnitV.gives a0
  rw [laws_FnExactUnitV.holds a0 w0] at h
  exact h.calls rfl rfl W
set_option maxRecDepth 100000 in
theorem lifted (os : Os) (started : os.Started) (H : Type) (enc : TypeId × Value → H) :
    ReturnsInHanded {} Try.checked os 9 .any (Rows.fnExactUnitVSpec.pre6 enc Try.prog Try.f9 Rows.fnExactUnitVRow.domain false) (Rows.fnExactUnitVSpec.post enc Try.prog Try.f9 false true false false) := by
  refine returnsInHanded_of_change_sized (C := Try.checked) own started (by kernel_rfl) Try.func9
    (ChangeSpec.witness6 (enc := enc) (C := Try.checked) false ⟨#[], #[.agg #[.int .i64 0, .int .i64 0, .int .i64 0, .int .i64 0, .int .i64 0, .int .i64 0]], []⟩ 8 (by kernel_rfl) (by kernel_rfl) (by kernel_rfl) (by kernel_rfl)) ?_
  intro W base args ds gs before hval0 hW hcnd hsz0 _
  have hval : ∀ (j : Nat) t v, Try.f9.params[j]? = some t → args[j]? = some v → Value.okWide Try.prog W .any base t v := hval0
  have hW' := hW
  obtain ⟨p, q, hA0, hV, rfl, hfz, hnd⟩ := hW
  have hA : DataW.TrodAll enc Try.prog W 0 (fun _ => true) true Try.f9.params.toList args.toList ds p := hA0
  rw [Try.params9] at hA hval
  obtain ⟨v0, vs0, d0, ds0, p0, q0, hargs, rfl, rfl, h0, r0⟩ := trodAll_cons hA
  obtain ⟨rfl, rfl, rfl⟩ := trodAll_nil r0
  obtain rfl : args = #[v0] := by cases args; simp_all
  obtain ⟨rfl, rfl⟩ := trodVars_none hV
  obtain ⟨a0, rfl, w0, rfl, s0⟩ := openV3 (m := 8) Try.underlying25 (by kernel_rfl) (hval 0 25 v0 rfl rfl) h0
  clear hA0 hval0 hsz0
  refine (calls a0 w0 W).mono fun e W' ⟨he, bel⟩ => ?_
  subst he
  exact ⟨_, rfl, _, _, _, [], _, [], hW', trodAll_mk1 (shut_bool Try.underlying4 _), (trodAll_cons_mk (s0 _ _ _ _) trodAll_mk0), rfl, bel.frame _, fun h => by cases h⟩
theorem over : Rows.fnExactUnitVRow.holds Try.pinned (OpenSpec.ofChange Rows.fnExactUnitVSpec) :=
  OpenClaim.holds_of_wide 9 Try.f9 rfl rfl rfl rfl rfl rfl rfl ⟨rfl, rfl, rfl, rfl, rfl⟩ rfl rfl rfl rfl rfl (by kernel_rfl) Try.func9 (by kernel_rfl)
    (of_decide_eq_true (by kernel_rfl)) (by unfold Func.isWrapper; first | (rw [if_pos (by decide +kernel)]; kernel_rfl) | (rw [if_neg (by decide +kernel)]; exact ⟨rfl, rfl⟩))
    (fun os started H enc _ => lifted os started H enc)
theorem proved : Rows.FnExactUnitVSaid := over
end Go.Proofs.Ytgcidmdollpbkaa.fnExactUnitV
namespace Go.Proofs.Ytgcidmdollpbkaa
/-- The row, under a short name, for the claim. -/
theorem fnExactUnitV_holds : Rows.FnExactUnitVSaid := fnExactUnitV.proved
end Go.Proofs.Ytgcidmdollpbkaa
