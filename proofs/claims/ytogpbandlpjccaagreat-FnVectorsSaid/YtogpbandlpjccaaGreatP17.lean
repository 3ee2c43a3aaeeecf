/- Vectors that are turned. -/
import Derived.Test.YtogpbandlpjccaaGreatP16
set_option linter.unusedSimpArgs false
set_option linter.unusedVariables false
namespace Go.G880
open Go Go.RX

theorem turned_eq (x y angle : Iv) : impl_turned x y angle = spec_l10Turn x y angle := by simp only [impl_turned, spec_l10Turn, CosI_eq, SinI_eq, SubI_eq, AddI_eq, MulI_eq]
theorem laws_FnExactTurnX.holds (a0 : V3) (a1 : Iv) (w0 : a0.In) (w1 : a1.In) : laws_FnExactTurnX a0 a1 = true := by
  simp only [laws_FnExactTurnX, impl_TurnX, spec_TurnX, turned_eq, toV, toI, eqV_refl, Bool.not_true, cond_false]
theorem laws_FnExactTurnY.holds (a0 : V3) (a1 : Iv) (w0 : a0.In) (w1 : a1.In) : laws_FnExactTurnY a0 a1 = true := by
  simp only [laws_FnExactTurnY, impl_TurnY, spec_TurnY, turned_eq, toV, toI, eqV_refl, Bool.not_true, cond_false]
theorem laws_FnExactTurnZ.holds (a0 : V3) (a1 : Iv) (w0 : a0.In) (w1 : a1.In) : laws_FnExactTurnZ a0 a1 = true := by
  simp only [laws_FnExactTurnZ, impl_TurnZ, spec_TurnZ, turned_eq, toV, toI, eqV_refl, Bool.not_true, cond_false]

end Go.G880
