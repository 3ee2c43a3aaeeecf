/- A vector product is at right angles; its square and that of the scalar product add up; turning keeps lengths, and directions have the length 1. -/
import Derived.Test.YtogpbandlpjccaaGreatGV
import Derived.Test.YtogpbandlpjccaaGreatRH2
set_option linter.unusedVariables false
set_option linter.unusedSimpArgs false
namespace Go.G880
open Go Go.RX Go.G880.Re Go.Rl
theorem neg_pt {m : Int} : spec_NegI ⟨m, m⟩ = ⟨-m, -m⟩ ∨ spec_NegI ⟨m, m⟩ = spec_l04Whole := by
  cases h : spec_l04Ok ⟨m, m⟩
  · right; simp only [spec_NegI, h, Bool.not_false, cond_true]
  · left; rw [← NegI_eq]; exact NegI_ok h
theorem sin_negpt (m : Int) : HR (spec_SinI (spec_NegI ⟨m, m⟩)) (-sin (fR m)) := by
  rcases neg_pt (m := m) with h | h
  · rw [h]; exact (SinPt (-m)).eq (by rw [fR_neg, sin_neg])
  · rw [h]; exact ringR (sin_bd _).neg
theorem cos_negpt (m : Int) : HR (spec_CosI (spec_NegI ⟨m, m⟩)) (cos (fR m)) := by
  rcases neg_pt (m := m) with h | h
  · rw [h]; exact (CosPt (-m)).eq (by rw [fR_neg, cos_neg])
  · rw [h]; exact ringR (cos_bd _)
theorem sameV_refl (a : V3) : spec_SameVec a a = true := by simp [spec_SameVec]
theorem overV_eq (a b : V3) : impl_OverlapV a b = spec_OverlapV a b := by simp only [impl_OverlapV, spec_OverlapV, OverlapI_eq]
theorem laws_FnVectors.holds (d i : List Value) : laws_FnVectors d i = true := by
  unfold laws_FnVectors
  cases laws_d8Long d i
  case true => rfl
  simp only [cond_false]
  generalize Go.Proofs.YtogpbandlpjccaaGreat.TX.spec_E8Vec d = A
  generalize Go.Proofs.YtogpbandlpjccaaGreat.TX.spec_E8Vec i = B
  generalize Go.Proofs.YtogpbandlpjccaaGreat.TX.spec_E8Fix i 34359738368 = m
  have eX : ∀ a g, impl_TurnX a g = spec_TurnX a g := fun a g => by simp only [impl_TurnX, spec_TurnX, turned_eq]
  have eY : ∀ a g, impl_TurnY a g = spec_TurnY a g := fun a g => by simp only [impl_TurnY, spec_TurnY, turned_eq]
  have eZ : ∀ a g, impl_TurnZ a g = spec_TurnZ a g := fun a g => by simp only [impl_TurnZ, spec_TurnZ, turned_eq]
  have eA : ∀ a b, impl_AddV a b = spec_AddV a b := fun a b => by simp only [impl_AddV, spec_AddV, AddI_eq]
  have eS : ∀ a b, impl_SubV a b = spec_SubV a b := fun a b => by simp only [impl_SubV, spec_SubV, SubI_eq]
  simp only [CrossV_eq, DotV_eq, NormV_eq, UnitV_eq, eX, eY, eZ, eA, eS, overV_eq, laws_d8Fix]
  have hA := lowsR A
  have hB := lowsR B
  generalize lows A = p at hA
  generalize lows B = q at hB
  have hC := CrossRR hA hB
  have d1 : spec_HasI (spec_DotV A (spec_CrossV A B)) 0 = true := HasR ((DotRR hA hC).eq (by rw [fR_zero]; simp only [dotR, crossR]; grind))
  have d2 : spec_HasI (spec_DotV B (spec_CrossV A B)) 0 = true := HasR ((DotRR hB hC).eq (by rw [fR_zero]; simp only [dotR, crossR]; grind))
  have nA := NormR hA.1 hA.2.1 hA.2.2
  have nB := NormR hB.1 hB.2.1 hB.2.2
  have nC := NormR hC.1 hC.2.1 hC.2.2
  have d3 : spec_OverlapI (spec_AddI (spec_SqrI (spec_NormV (spec_CrossV A B))) (spec_SqrI (spec_DotV A B))) (spec_MulI (spec_SqrI (spec_NormV A)) (spec_SqrI (spec_NormV B))) = true :=
    OverR (AddR (SqrR nC) (SqrR (DotRR hA hB))) ((MulR (SqrR nA) (SqrR nB)).eq (by
      simp only [norm_sq, dotR, crossR]
      grind))
  have hc := CosPt m
  have hs := SinPt m
  have one := sq_one (fR m)
  generalize cos (fR m) = c at *
  generalize sin (fR m) = s at *
  have tX := TurnVR hA.2.1 hA.2.2 hc hs
  have tY := TurnVR hA.2.2 hA.1 hc hs
  have tZ := TurnVR hA.1 hA.2.1 hc hs
  have d4 : spec_OverlapI (spec_NormV (spec_TurnX A ⟨m, m⟩)) (spec_NormV A) = true :=
    OverR (NormR (A := spec_TurnX A ⟨m, m⟩) hA.1 tX.1 tX.2) (nA.eq (norm_eq (by grind)))
  have d5 : spec_OverlapI (spec_NormV (spec_TurnY A ⟨m, m⟩)) (spec_NormV A) = true :=
    OverR (NormR (A := spec_TurnY A ⟨m, m⟩) tY.2 hA.2.1 tY.1) (nA.eq (norm_eq (by grind)))
  have d6 : spec_OverlapI (spec_NormV (spec_TurnZ A ⟨m, m⟩)) (spec_NormV A) = true :=
    OverR (NormR (A := spec_TurnZ A ⟨m, m⟩) tZ.1 tZ.2 hA.2.2) (nA.eq (norm_eq (by grind)))
  have hs2 := sin_negpt m
  have hc2 := cos_negpt m
  have hc0 := CosPt m
  have hs0 := SinPt m
  have one0 := sq_one (fR m)
  have tU := TurnVR hA.1 hA.2.1 hc0 hs0
  have tW := TurnVR (g := spec_NegI ⟨m, m⟩) tU.1 tU.2 hc2 hs2
  have d7 : spec_OverlapV (spec_TurnZ (spec_TurnZ A ⟨m, m⟩) (spec_NegI ⟨m, m⟩)) A = true :=
    overV (A := spec_TurnZ (spec_TurnZ A ⟨m, m⟩) (spec_NegI ⟨m, m⟩)) (B := A) (p := p) ⟨tW.1.eq (by grind), tW.2.eq (by grind), hA.2.2⟩ hA
  have d8 : spec_OverlapI (spec_NormV (spec_UnitV A)) (spec_Integer 1) = true := OverR (unit_norm hA) (IntR 1)
  simp only [d1, d2, d3, d4, d5, d6, d7, d8, Bool.not_true, cond_false, cond_true, sameV_refl]
end Go.G880
