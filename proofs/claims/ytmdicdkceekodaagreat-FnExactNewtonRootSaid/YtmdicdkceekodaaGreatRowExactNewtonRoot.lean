/- The law FnExactNewtonRoot returns true for every input, and leaves its arguments as they were. No condition. -/
import Derived.Test.YtmdicdkceekodaaGreatRows
import Derived.Test.YtmdicdkceekodaaGreatGExactNewtonRoot
import Derived.Test.YtmdicdkceekodaaGreatRxG
import Derived.Test.YtmdicdkceekodaaGreatRxO
import Derived.Test.YtmdicdkceekodaaGreatP23
namespace Go.Proofs.YtmdicdkceekodaaGreat.fnExactNewtonRoot
open Go Go.RX Go.G880 Go.ChangeShapes Go.WideShapes Go.ChangeAt Go.RowKit
set_option linter.unusedVariables false
theorem own : ownKnob Tryz.prog.godebug = none := by kernel_rfl
theorem calls (a0 : List Value) (a1 : Iv) (a2 : Int) (w0 : (a0.length : Int) ≤ 9223372036854775807) (w1 : a1.In) (w2 : In64 a2) {W : World} {xs : List Value} (hr : ∃ q, Ready W [(aL (.agg #[.int .i64 0, .int .i64 0]) 24).enc a0, (aV cIv).enc a1, (aV (cInt .i64)).enc a2] xs q) : Calls Tryz.prog 3 xs.toArray W fun e w' => e = .returned (.bool true) ∧ Below W.heap.size W w' := by
  have h := laws_FnExactNewtonRoot.gives a0 a1 a2 (decide_eq_true w0)
  rw [laws_FnExactNewtonRoot.holds a0 a1 a2 w0 w1 w2] at h
  exact h.calls rfl hr
set_option maxRecDepth 100000 in
theorem lifted (os : Os) (started : os.Started) (H : Type) (enc : TypeId × Value → H) :
    ReturnsInHanded {} Tryz.checked os 3 .any (Rows.fnExactNewtonRootSpec.pre6 enc Tryz.prog Tryz.f3 Rows.fnExactNewtonRootRow.domain false) (Rows.fnExactNewtonRootSpec.post enc Tryz.prog Tryz.f3 false true false false) := by
  refine returnsInHanded_of_change_sized (C := Tryz.checked) own started (by kernel_rfl) Tryz.func3
    (ChangeSpec.witness6 (enc := enc) (C := Tryz.checked) false ⟨#[], #[.slice none 0 0, .agg #[.int .i64 0, .int .i64 0], .int .i64 0], []⟩ 8 (by kernel_rfl) (by kernel_rfl) (by kernel_rfl) (by kernel_rfl)) ?_
  intro W base args ds gs before hval0 hW hcnd hsz0 _
  have hval : ∀ (j : Nat) t v, Tryz.f3.params[j]? = some t → args[j]? = some v → Value.okWide Tryz.prog W .any base t v := hval0
  have hW' := hW
  obtain ⟨p, q, hA0, hV, rfl, hfz, hnd⟩ := hW
  have hA : DataW.TrodAll enc Tryz.prog W 0 (fun _ => true) true Tryz.f3.params.toList args.toList ds p := hA0
  rw [Tryz.params3] at hA hval
  obtain ⟨v0, vs0, d0, ds0, p0, q0, hargs, rfl, rfl, h0, r0⟩ := trodAll_cons hA
  obtain ⟨v1, vs1, d1, ds1, p1, q1, rfl, rfl, rfl, h1, r1⟩ := trodAll_cons r0
  obtain ⟨v2, vs2, d2, ds2, p2, q2, rfl, rfl, rfl, h2, r2⟩ := trodAll_cons r1
  obtain ⟨rfl, rfl, rfl⟩ := trodAll_nil r2
  obtain rfl : args = #[v0, v1, v2] := by cases args; simp_all
  obtain ⟨rfl, rfl⟩ := trodVars_none hV
  have s0 := h0
  obtain ⟨a0, pl0, rfl, l0, k0, w0, _⟩ := openL Tryz.underlying22 (by kernel_rfl) (hval 0 22 v0 rfl rfl) h0
  obtain ⟨a1, rfl, w1, rfl, s1⟩ := openIv (m := 8) Tryz.underlying24 (by kernel_rfl) (hval 1 24 v1 rfl rfl) h1
  obtain ⟨a2, rfl, w2, rfl, s2⟩ := openI Tryz.underlying2 (hval 2 2 v2 rfl rfl) h2
  clear hA0 hval0 hsz0
  have lt0 : ∀ x ∈ p0, x.block < W.heap.size := fun x hx => hW'.lt x (by simp [hx])
  refine (calls a0 a1 a2 w0 w1 w2 (W := W) (Ready.l l0 k0 (Ready.v rfl (Ready.v rfl (Ready.nil W))))).mono fun e W' ⟨he, bel⟩ => ?_
  subst he
  exact ⟨_, rfl, _, _, _, [], _, [], hW', trodAll_mk1 (shut_bool Tryz.underlying4 _), (trodAll_cons_mk (Below.trod (by kernel_rfl) (by kernel_rfl) (of_decide_eq_true (by kernel_rfl)) s0 bel lt0) (trodAll_cons_mk (s1 _ _ _ _) (trodAll_cons_mk (s2 _ _ _ _) trodAll_mk0))), rfl, bel.frame _, fun h => by cases h⟩
theorem over : Rows.fnExactNewtonRootRow.holds Tryz.pinned (OpenSpec.ofChange Rows.fnExactNewtonRootSpec) :=
  OpenClaim.holds_of_wide 3 Tryz.f3 rfl rfl rfl rfl rfl rfl rfl ⟨rfl, rfl, rfl, rfl, rfl⟩ rfl rfl rfl rfl rfl (by kernel_rfl) Tryz.func3 (by kernel_rfl)
    (of_decide_eq_true (by kernel_rfl)) (by unfold Func.isWrapper; first | (rw [if_pos (by decide +kernel)]; kernel_rfl) | (rw [if_neg (by decide +kernel)]; exact ⟨rfl, rfl⟩))
    (fun os started H enc _ => lifted os started H enc)
theorem proved : Rows.FnExactNewtonRootSaid := over
end Go.Proofs.YtmdicdkceekodaaGreat.fnExactNewtonRoot
namespace Go.Proofs.YtmdicdkceekodaaGreat
/-- The row, under a short name, for the claim. -/
theorem fnExactNewtonRoot_holds : Rows.FnExactNewtonRootSaid := fnExactNewtonRoot.proved
end Go.Proofs.YtmdicdkceekodaaGreat
