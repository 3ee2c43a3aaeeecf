/- Products of matrices act one after the other, and a matrix times its inverse is the unit matrix. -/
import Derived.Test.YtogpbandlpjccaaGMx
import Derived.Test.YtogpbandlpjccaaPM1
set_option linter.unusedVariables false
set_option linter.unusedSimpArgs false
namespace Go.G880
open Go Go.RX Go.Proofs.Ytogpbandlpjccaa.TX Go.G880.Nw
theorem laws_FnMatrices.holds (d i : List Value) : laws_FnMatrices d i = true := by
  unfold laws_FnMatrices
  cases laws_d8Long d i
  case true => rfl
  simp only [cond_false]
  generalize Go.Proofs.Ytogpbandlpjccaa.TX.spec_E8Mat d = m
  generalize Go.Proofs.Ytogpbandlpjccaa.TX.spec_E8Mat i = n
  generalize Go.Proofs.Ytogpbandlpjccaa.TX.spec_E8Vec i = v
  simp only [ApplyM_eq, MulM_eq, InverseM_eq, law_product, Bool.not_true, cond_false]
  cases h : (spec_InverseM m).2
  case false => simp
  obtain ⟨h1, h2, h3⟩ := law_inverse m h
  simp only [Bool.not_true, cond_false]
  rw [h1, h2, h3]
  rfl
end Go.G880
