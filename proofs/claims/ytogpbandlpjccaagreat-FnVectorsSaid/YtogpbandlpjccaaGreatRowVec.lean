/- The law FnVectors returns true for every input, and leaves its arguments as they were. No condition. -/
import Derived.Test.YtogpbandlpjccaaGreatRows
import Derived.Test.YtogpbandlpjccaaGreatChecked
import Derived.Test.YtogpbandlpjccaaGreatGV
import Derived.Test.YtogpbandlpjccaaGreatZV
import Derived.Test.YtogpbandlpjccaaGreatRxS
namespace Go.Proofs.YtogpbandlpjccaaGreat.fnVectors
open Go Go.RX Go.G880 Go.Proofs.YtogpbandlpjccaaGreat.TX Go.ChangeShapes Go.WideShapes Go.ChangeAt Go.RowKit
set_option linter.unusedVariables false
theorem own : ownKnob Tryz.prog.godebug = none := by kernel_rfl
theorem calls (a0 : List Value) (w0 : bytesOk a0 = true) (a1 : List Value) (w1 : bytesOk a1 = true) {W : World} {xs : List Value} (hr : ∃ q, Ready W [(aL (.int .u8 0) 5).enc a0, (aL (.int .u8 0) 5).enc a1] xs q) : Calls Tryz.prog 3 xs.toArray W fun e w' => e = .returned (.bool true) ∧ Below W.heap.size W w' := by
  have h := laws_FnVectors.gives a0 a1 (by rw [w0, w1]; rfl)
  rw [laws_FnVectors.holds a0 a1] at h
  exact h.calls rfl hr
theorem bytes {rows : List Value} (h : ∀ x ∈ rows, 0 ≤ cI x ∧ cI x ≤ 255) : bytesOk rows = true := by
  simp only [bytesOk, List.all_eq_true, Bool.and_eq_true, decide_eq_true_eq]
  exact h
set_option maxRecDepth 100000 in
theorem lifted (os : Os) (started : os.Started) (H : Type) (enc : TypeId × Value → H) :
    ReturnsInHanded {} Tryz.checked os 3 .any (Rows.fnVectorsSpec.pre6 enc Tryz.prog Tryz.f3 Rows.fnVectorsRow.domain false) (Rows.fnVectorsSpec.post enc Tryz.prog Tryz.f3 false true false false) := by
  refine returnsInHanded_of_change_sized (C := Tryz.checked) own started (by kernel_rfl) Tryz.func3
    (ChangeSpec.witness6 (enc := enc) (C := Tryz.checked) false ⟨#[], #[.slice none 0 0, .slice none 0 0], []⟩ 8 (by kernel_rfl) (by kernel_rfl) (by kernel_rfl) (by kernel_rfl)) ?_
  intro W base args ds gs before hval0 hW hcnd hsz0 _
  have hval : ∀ (j : Nat) t v, Tryz.f3.params[j]? = some t → args[j]? = some v → Value.okWide Tryz.prog W .any base t v := hval0
  have hW' := hW
  obtain ⟨p, q, hA0, hV, rfl, hfz, hnd⟩ := hW
  have hA : DataW.TrodAll enc Tryz.prog W 0 (fun _ => true) true Tryz.f3.params.toList args.toList ds p := hA0
  rw [Tryz.params3] at hA hval
  obtain ⟨v0, vs0, d0, ds0, p0, q0, hargs, rfl, rfl, h0, r0⟩ := trodAll_cons hA
  obtain ⟨v1, vs1, d1, ds1, p1, q1, rfl, rfl, rfl, h1, r1⟩ := trodAll_cons r0
  obtain ⟨rfl, rfl, rfl⟩ := trodAll_nil r1
  obtain rfl : args = #[v0, v1] := by cases args; simp_all
  obtain ⟨rfl, rfl⟩ := trodVars_none hV
  have s0 := h0
  obtain ⟨a0, pl0, rfl, l0, k0, w0⟩ := openB Tryz.underlying22 Tryz.underlying5 (by kernel_rfl) (hval 0 22 v0 rfl rfl) h0
  have s1 := h1
  obtain ⟨a1, pl1, rfl, l1, k1, w1⟩ := openB Tryz.underlying22 Tryz.underlying5 (by kernel_rfl) (hval 1 22 v1 rfl rfl) h1
  clear hA0 hval0 hsz0
  have lt0 : ∀ x ∈ p0, x.block < W.heap.size := fun x hx => hW'.lt x (by simp [hx])
  have lt1 : ∀ x ∈ p1, x.block < W.heap.size := fun x hx => hW'.lt x (by simp [hx])
  refine (calls a0 (bytes w0) a1 (bytes w1) (W := W) (Ready.l l0 k0 (Ready.l l1 k1 (Ready.nil W)))).mono fun e W' ⟨he, bel⟩ => ?_
  subst he
  exact ⟨_, rfl, _, _, _, [], _, [], hW', trodAll_mk1 (shut_bool Tryz.underlying4 _), (trodAll_cons_mk (Below.trod (by kernel_rfl) (by kernel_rfl) (of_decide_eq_true (by kernel_rfl)) s0 bel lt0) (trodAll_cons_mk (Below.trod (by kernel_rfl) (by kernel_rfl) (of_decide_eq_true (by kernel_rfl)) s1 bel lt1) trodAll_mk0)), rfl, bel.frame _, fun h => by cases h⟩
theorem over : Rows.fnVectorsRow.holds Tryz.pinned (OpenSpec.ofChange Rows.fnVectorsSpec) :=
  OpenClaim.holds_of_wide 3 Tryz.f3 rfl rfl rfl rfl rfl rfl rfl ⟨rfl, rfl, rfl, rfl, rfl⟩ rfl rfl rfl rfl rfl (by kernel_rfl) Tryz.func3 (by kernel_rfl)
    (of_decide_eq_true (by kernel_rfl)) (by unfold Func.isWrapper; first | (rw [if_pos (by decide +kernel)]; kernel_rfl) | (rw [if_neg (by decide +kernel)]; exact ⟨rfl, rfl⟩))
    (fun os started H enc _ => lifted os started H enc)
theorem proved : Rows.FnVectorsSaid := over
end Go.Proofs.YtogpbandlpjccaaGreat.fnVectors
namespace Go.Proofs.YtogpbandlpjccaaGreat
/-- The row, under a short name, for the claim. -/
theorem fnVectors_holds : Rows.FnVectorsSaid := fnVectors.proved
end Go.Proofs.YtogpbandlpjccaaGreat
