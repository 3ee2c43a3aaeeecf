/- The law FnExactArcI returns true for every input, and leaves its arguments as they were. No condition. -/
import Derived.Test.YtomphoojkemcpaaGreatRows
import Derived.Test.YtomphoojkemcpaaGreatGExactArcI
import Derived.Test.YtomphoojkemcpaaGreatRxG
import Derived.Test.YtomphoojkemcpaaGreatP18
namespace Go.Proofs.YtomphoojkemcpaaGreat.fnExactArcI
open Go Go.RX Go.G880 Go.ChangeShapes Go.WideShapes Go.ChangeAt Go.RowKit
set_option linter.unusedVariables false
theorem own : ownKnob Tryz.prog.godebug = none := by kernel_rfl
theorem calls (a0 : El) (a1 : Iv) (w0 : a0.In) (w1 : a1.In) (W : World) : Calls Tryz.prog 6 [cEl.enc a0, cIv.enc a1].toArray W fun e w' => e = .returned (.bool true) ∧ Below W.heap.size W w' := by
  have h := laws_FnExactArcI.gives a0 a1
  rw [laws_FnExactArcI.holds a0 a1 w0 w1] at h
  exact h.calls rfl rfl W
set_option maxRecDepth 100000 in
theorem lifted (os : Os) (started : os.Started) (H : Type) (enc : TypeId × Value → H) :
    ReturnsInHanded {} Tryz.checked os 6 .any (Rows.fnExactArcISpec.pre6 enc Tryz.prog Tryz.f6 Rows.fnExactArcIRow.domain false) (Rows.fnExactArcISpec.post enc Tryz.prog Tryz.f6 false true false false) := by
  refine returnsInHanded_of_change_sized (C := Tryz.checked) own started (by kernel_rfl) Tryz.func6
    (ChangeSpec.witness6 (enc := enc) (C := Tryz.checked) false ⟨#[], #[.agg #[.int .i64 0, .int .i64 0, .int .i64 0], .agg #[.int .i64 0, .int .i64 0]], []⟩ 8 (by kernel_rfl) (by kernel_rfl) (by kernel_rfl) (by kernel_rfl)) ?_
  intro W base args ds gs before hval0 hW hcnd hsz0 _
  have hval : ∀ (j : Nat) t v, Tryz.f6.params[j]? = some t → args[j]? = some v → Value.okWide Tryz.prog W .any base t v := hval0
  have hW' := hW
  obtain ⟨p, q, hA0, hV, rfl, hfz, hnd⟩ := hW
  have hA : DataW.TrodAll enc Tryz.prog W 0 (fun _ => true) true Tryz.f6.params.toList args.toList ds p := hA0
  rw [Tryz.params6] at hA hval
  obtain ⟨v0, vs0, d0, ds0, p0, q0, hargs, rfl, rfl, h0, r0⟩ := trodAll_cons hA
  obtain ⟨v1, vs1, d1, ds1, p1, q1, rfl, rfl, rfl, h1, r1⟩ := trodAll_cons r0
  obtain ⟨rfl, rfl, rfl⟩ := trodAll_nil r1
  obtain rfl : args = #[v0, v1] := by cases args; simp_all
  obtain ⟨rfl, rfl⟩ := trodVars_none hV
  obtain ⟨a0, rfl, w0, rfl, s0⟩ := openEl (m := 8) Tryz.underlying35 (by kernel_rfl) (hval 0 35 v0 rfl rfl) h0
  obtain ⟨a1, rfl, w1, rfl, s1⟩ := openIv (m := 8) Tryz.underlying23 (by kernel_rfl) (hval 1 23 v1 rfl rfl) h1
  clear hA0 hval0 hsz0
  refine (calls a0 a1 w0 w1 W).mono fun e W' ⟨he, bel⟩ => ?_
  subst he
  exact ⟨_, rfl, _, _, _, [], _, [], hW', trodAll_mk1 (shut_bool Tryz.underlying4 _), (trodAll_cons_mk (s0 _ _ _ _) (trodAll_cons_mk (s1 _ _ _ _) trodAll_mk0)), rfl, bel.frame _, fun h => by cases h⟩
theorem over : Rows.fnExactArcIRow.holds Tryz.pinned (OpenSpec.ofChange Rows.fnExactArcISpec) :=
  OpenClaim.holds_of_wide 6 Tryz.f6 rfl rfl rfl rfl rfl rfl rfl ⟨rfl, rfl, rfl, rfl, rfl⟩ rfl rfl rfl rfl rfl (by kernel_rfl) Tryz.func6 (by kernel_rfl)
    (of_decide_eq_true (by kernel_rfl)) (by unfold Func.isWrapper; first | (rw [if_pos (by decide +kernel)]; kernel_rfl) | (rw [if_neg (by decide +kernel)]; exact ⟨rfl, rfl⟩))
    (fun os started H enc _ => lifted os started H enc)
theorem proved : Rows.FnExactArcISaid := over
end Go.Proofs.YtomphoojkemcpaaGreat.fnExactArcI
namespace Go.Proofs.YtomphoojkemcpaaGreat
/-- The row, under a short name, for the claim. -/
theorem fnExactArcI_holds : Rows.FnExactArcISaid := fnExactArcI.proved
end Go.Proofs.YtomphoojkemcpaaGreat
