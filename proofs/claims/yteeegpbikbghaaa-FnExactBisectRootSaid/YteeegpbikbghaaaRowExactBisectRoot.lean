/- The law FnExactBisectRoot returns true for every input, and leaves its arguments as they were. No condition. -/
import Derived.Test.YteeegpbikbghaaaRows
import Derived.Test.YteeegpbikbghaaaGExactBisectRoot
import Derived.Test.YteeegpbikbghaaaRxG
import Derived.Test.YteeegpbikbghaaaRxO
import Derived.Test.YteeegpbikbghaaaP21
namespace Go.Proofs.Yteeegpbikbghaaa.fnExactBisectRoot
open Go Go.RX Go.G880 Go.ChangeShapes Go.WideShapes Go.ChangeAt Go.RowKit
set_option linter.unusedVariables false
theorem own : ownKnob Try.prog.godebug = none := by kernel_rfl
theorem calls (a0 : List Value) (a1 : Iv) (a2 : Int) (w0 : (a0.length : Int) ≤ 9223372036854775807) (w1 : a1.In) (w2 : In64 a2) {W : World} {xs : List Value} (hr : ∃ q, Ready W [(aL (.agg #[.int .i64 0, .int .i64 0]) 24).enc a0, (aV cIv).enc a1, (aV (cInt .i64)).enc a2] xs q) : Calls Try.prog 6 xs.toArray W fun e w' => e = .returned (.bool true) ∧ Below W.heap.size W w' := by
  have h := laws_FnExactBisectRoot.gives a0 a1 a2 (decide_eq_true w0)
  rw [laws_FnExactBisectRoot.holds a0 a1 a2 w0 w1 w2] at h
  exact h.calls rfl hr
set_option maxRecDepth 100000 in
theorem lifted (os : Os) (started : os.Started) (H : Type) (enc : TypeId × Value → H) :
    ReturnsInHanded {} Try.checked os 6 .any (Rows.fnExactBisectRootSpec.pre6 enc Try.prog Try.f6 Rows.fnExactBisectRootRow.domain false) (Rows.fnExactBisectRootSpec.post enc Try.prog Try.f6 false true false false) := by
  refine returnsInHanded_of_change_sized (C := Try.checked) own started (by kernel_rfl) Try.func6
    (ChangeSpec.witness6 (enc := enc) (C := Try.checked) false ⟨#[], #[.slice none 0 0, .agg #[.int .i64 0, .int .i64 0], .int .i64 0], []⟩ 8 (by kernel_rfl) (by kernel_rfl) (by kernel_rfl) (by kernel_rfl)) ?_
  intro W base args ds gs before hval0 hW hcnd hsz0 _
  have hval : ∀ (j : Nat) t v, Try.f6.params[j]? = some t → args[j]? = some v → Value.okWide Try.prog W .any base t v := hval0
  have hW' := hW
  obtain ⟨p, q, hA0, hV, rfl, hfz, hnd⟩ := hW
  have hA : DataW.TrodAll enc Try.prog W 0 (fun _ => true) true Try.f6.params.toList args.toList ds p := hA0
  rw [Try.params6] at hA hval
  obtain ⟨v0, vs0, d0, ds0, p0, q0, hargs, rfl, rfl, h0, r0⟩ := trodAll_cons hA
  obtain ⟨v1, vs1, d1, ds1, p1, q1, rfl, rfl, rfl, h1, r1⟩ := trodAll_cons r0
  obtain ⟨v2, vs2, d2, ds2, p2, q2, rfl, rfl, rfl, h2, r2⟩ := trodAll_cons r1
  obtain ⟨rfl, rfl, rfl⟩ := trodAll_nil r2
  obtain rfl : args = #[v0, v1, v2] := by cases args; simp_all
  obtain ⟨rfl, rfl⟩ := trodVars_none hV
  have s0 := h0
  obtain ⟨a0, pl0, rfl, l0, k0, w0, _⟩ := openL Try.underlying22 (by kernel_rfl) (hval 0 22 v0 rfl rfl) h0
  obtain ⟨a1, rfl, w1, rfl, s1⟩ := openIv (m := 8) Try.underlying24 (by kernel_rfl) (hval 1 24 v1 rfl rfl) h1
  obtain ⟨a2, rfl, w2, rfl, s2⟩ := openI Try.underlying2 (hval 2 2 v2 rfl rfl) h2
  clear hA0 hval0 hsz0
  have lt0 : ∀ x ∈ p0, x.block < W.heap.size := fun x hx => hW'.lt x (by simp [hx])
  refine (calls a0 a1 a2 w0 w1 w2 (W := W) (Ready.l l0 k0 (Ready.v rfl (Ready.v rfl (Ready.nil W))))).mono fun e W' ⟨he, bel⟩ => ?_
  subst he
  exact ⟨_, rfl, _, _, _, [], _, [], hW', trodAll_mk1 (shut_bool Try.underlying4 _), (trodAll_cons_mk (Below.trod (by kernel_rfl) (by kernel_rfl) (of_decide_eq_true (by kernel_rfl)) s0 bel lt0) (trodAll_cons_mk (s1 _ _ _ _) (trodAll_cons_mk (s2 _ _ _ _) trodAll_mk0))), rfl, bel.frame _, fun h => by cases h⟩
theorem over : Rows.fnExactBisectRootRow.holds Try.pinned (OpenSpec.ofChange Rows.fnExactBisectRootSpec) :=
  OpenClaim.holds_of_wide 6 Try.f6 rfl rfl rfl rfl rfl rfl rfl ⟨rfl, rfl, rfl, rfl, rfl⟩ rfl rfl rfl rfl rfl (by kernel_rfl) Try.func6 (by kernel_rfl)
    (of_decide_eq_true (by kernel_rfl)) (by unfold Func.isWrapper; first | (rw [if_pos (by decide +kernel)]; kernel_rfl) | (rw [if_neg (by decide +kernel)]; exact ⟨rfl, rfl⟩))
    (fun os started H enc _ => lifted os started H enc)
theorem proved : Rows.FnExactBisectRootSaid := over
end Go.Proofs.Yteeegpbikbghaaa.fnExactBisectRoot
namespace Go.Proofs.Yteeegpbikbghaaa
/-- The row, under a short name, for the claim. -/
theorem fnExactBisectRoot_holds : Rows.FnExactBisectRootSaid := fnExactBisectRoot.proved
end Go.Proofs.Yteeegpbikbghaaa
