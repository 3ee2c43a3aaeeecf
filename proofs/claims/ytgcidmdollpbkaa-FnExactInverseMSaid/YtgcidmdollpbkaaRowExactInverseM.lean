/- The law FnExactInverseM returns true for every input, and leaves its arguments as they were. No condition. -/
import Derived.Test.YtgcidmdollpbkaaRows
import Derived.Test.YtgcidmdollpbkaaGExactInverseM
import Derived.Test.YtgcidmdollpbkaaRxG
import Derived.Test.YtgcidmdollpbkaaP10
namespace Go.Proofs.Ytgcidmdollpbkaa.fnExactInverseM
open Go Go.RX Go.G880 Go.ChangeShapes Go.WideShapes Go.ChangeAt Go.RowKit
set_option linter.unusedVariables false
theorem own : ownKnob Try.prog.godebug = none := by kernel_rfl
theorem calls (a0 : M3) (w0 : a0.In) (W : World) : Calls Try.prog 10 [cM3.enc a0].toArray W fun e w' => e = .returned (.bool true) ∧ Below W.heap.size W w' := by
  have h := laws_FnExactInverseM.gives a0
  rw [laws_FnExactInverseM.holds a0 w0] at h
  exact h.calls rfl rfl W
set_option maxRecDepth 100000 in
theorem lifted (os : Os) (started : os.Started) (H : Type) (enc : TypeId × Value → H) :
    ReturnsInHanded {} Try.checked os 10 .any (Rows.fnExactInverseMSpec.pre6 enc Try.prog Try.f10 Rows.fnExactInverseMRow.domain false) (Rows.fnExactInverseMSpec.post enc Try.prog Try.f10 false true false false) := by
  refine returnsInHanded_of_change_sized (C := Try.checked) own started (by kernel_rfl) Try.func10
    (ChangeSpec.witness6 (enc := enc) (C := Try.checked) false ⟨#[], #[.agg #[.int .i64 0, .int .i64 0, .int .i64 0, .int .i64 0, .int .i64 0, .int .i64 0, .int .i64 0, .int .i64 0, .int .i64 0, .int .i64 0, .int .i64 0, .int .i64 0, .int .i64 0, .int .i64 0, .int .i64 0, .int .i64 0, .int .i64 0, .int .i64 0]], []⟩ 8 (by kernel_rfl) (by kernel_rfl) (by kernel_rfl) (by kernel_rfl)) ?_
  intro W base args ds gs before hval0 hW hcnd hsz0 _
  have hval : ∀ (j : Nat) t v, Try.f10.params[j]? = some t → args[j]? = some v → Value.okWide Try.prog W .any base t v := hval0
  have hW' := hW
  obtain ⟨p, q, hA0, hV, rfl, hfz, hnd⟩ := hW
  have hA : DataW.TrodAll enc Try.prog W 0 (fun _ => true) true Try.f10.params.toList args.toList ds p := hA0
  rw [Try.params10] at hA hval
  obtain ⟨v0, vs0, d0, ds0, p0, q0, hargs, rfl, rfl, h0, r0⟩ := trodAll_cons hA
  obtain ⟨rfl, rfl, rfl⟩ := trodAll_nil r0
  obtain rfl : args = #[v0] := by cases args; simp_all
  obtain ⟨rfl, rfl⟩ := trodVars_none hV
  obtain ⟨a0, rfl, w0, rfl, s0⟩ := openM3 (m := 8) Try.underlying38 (by kernel_rfl) (hval 0 38 v0 rfl rfl) h0
  clear hA0 hval0 hsz0
  refine (calls a0 w0 W).mono fun e W' ⟨he, bel⟩ => ?_
  subst he
  exact ⟨_, rfl, _, _, _, [], _, [], hW', trodAll_mk1 (shut_bool Try.underlying4 _), (trodAll_cons_mk (s0 _ _ _ _) trodAll_mk0), rfl, bel.frame _, fun h => by cases h⟩
theorem over : Rows.fnExactInverseMRow.holds Try.pinned (OpenSpec.ofChange Rows.fnExactInverseMSpec) :=
  OpenClaim.holds_of_wide 10 Try.f10 rfl rfl rfl rfl rfl rfl rfl ⟨rfl, rfl, rfl, rfl, rfl⟩ rfl rfl rfl rfl rfl (by kernel_rfl) Try.func10 (by kernel_rfl)
    (of_decide_eq_true (by kernel_rfl)) (by unfold Func.isWrapper; first | (rw [if_pos (by decide +kernel)]; kernel_rfl) | (rw [if_neg (by decide +kernel)]; exact ⟨rfl, rfl⟩))
    (fun os started H enc _ => lifted os started H enc)
theorem proved : Rows.FnExactInverseMSaid := over
end Go.Proofs.Ytgcidmdollpbkaa.fnExactInverseM
namespace Go.Proofs.Ytgcidmdollpbkaa
/-- The row, under a short name, for the claim. -/
theorem fnExactInverseM_holds : Rows.FnExactInverseMSaid := fnExactInverseM.proved
end Go.Proofs.Ytgcidmdollpbkaa
