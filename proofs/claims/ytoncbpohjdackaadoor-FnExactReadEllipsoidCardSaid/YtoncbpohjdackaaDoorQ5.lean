/- Reading an ellipsoid: both ways agree. -/
import Derived.Test.YtoncbpohjdackaaDoorQ4
import Derived.Test.YtoncbpohjdackaaDoorX5
set_option linter.unusedVariables false
set_option linter.unusedSimpArgs false
namespace Go.Proofs.YtoncbpohjdackaaDoor.TX
open Go.RowKit Go.Proofs.YtoncbpohjdackaaDoorW.PrintWords Go.Proofs.YtoncbpohjdackaaDoorW.PrintLast Go.Proofs.YtoncbpohjdackaaDoorW.PrintMore
open Go.TX Go.Lib

def combE (p q r : Int × Bool) : Int × Int × Int × Bool :=
  if p.2 = true then (if q.2 = true then (if r.2 = true then (if okE p.1 q.1 r.1 = true then (p.1, q.1, r.1, true) else (0, 0, 0, false)) else (0, 0, 0, false)) else (0, 0, 0, false)) else (0, 0, 0, false)
theorem combE_1 {p q r : Int × Bool} (h : p = (0, false)) : combE p q r = (0, 0, 0, false) := by subst h; rfl
theorem combE_2 {p q r : Int × Bool} (h : q = (0, false)) : combE p q r = (0, 0, 0, false) := by subst h; unfold combE; simp
theorem combE_3 {p q r : Int × Bool} (h : r = (0, false)) : combE p q r = (0, 0, 0, false) := by subst h; unfold combE; simp
def RE (l : List UInt8) : Int × Int × Int × Bool := combE (readDec (cut1 32 l).1) (readDec (cut1 47 (cut1 32 l).2).1) (readDec (cut1 47 (cut1 32 l).2).2)
theorem cutF_f (c : UInt8) (l : List UInt8) (h : l.length < 4294967281) : strings_Cut.f (bs l) (bs [c]) = some (bs (cut1 c l).1, bs (cut1 c l).2, decide (c ∈ l)) := by
  unfold strings_Cut.f
  rw [if_pos (by rw [bs_size]; exact h)]
  have := cut_eq c l
  simp only [this]
theorem cut1_len (c : UInt8) (l : List UInt8) : (cut1 c l).1.length ≤ l.length ∧ (cut1 c l).2.length ≤ l.length := by
  induction l with
  | nil => simp [cut1]
  | cons b l ih =>
    rw [cut1]
    split
    · simp
    · simp; omega
theorem readDecimal_f (l : List UInt8) (h : l.length < 4294967281) : impl_ReadDecimal.f (bs l) = some (readDec l) := by
  unfold impl_ReadDecimal.f
  rw [if_pos (by rw [bs_size]; exact h)]
theorem ite_some {α : Type} {c : Prop} [Decidable c] (a b : α) : (if c then some a else some b) = some (if c then a else b) := by split <;> rfl
theorem implRE_f (l : List UInt8) (h : l.length < 4294967281) : impl_ReadEllipsoid.f (bs l) = some (RE l) := by
  have h1 := cut1_len 32 l
  have h2 := cut1_len 47 (cut1 32 l).2
  unfold impl_ReadEllipsoid.f
  have e1 := cutF_f 32 l h
  have e2 := cutF_f 47 (cut1 32 l).2 (by omega)
  rw [show (⟨#[32]⟩ : ByteArray) = bs [32] from rfl, e1, Option.bind_some]
  simp only
  rw [show (⟨#[47]⟩ : ByteArray) = bs [47] from rfl, e2, Option.bind_some]
  simp only
  rw [readDecimal_f _ (by omega), Option.bind_some, readDecimal_f _ (by omega), Option.bind_some, readDecimal_f _ (by omega), Option.bind_some]
  unfold RE combE
  simp only [validE_f, Option.bind_some, ite_some]
def RES (l : List UInt8) : Int × Int × Int × Bool :=
  if 32 ∈ l ∧ 32 ∉ (cut1 32 l).2 then (if 47 ∈ (cut1 32 l).2 ∧ 47 ∉ (cut1 47 (cut1 32 l).2).2 then RE l else (0, 0, 0, false)) else (0, 0, 0, false)
theorem isD32 : isD 32 = false := by decide
theorem isD47 : isD 47 = false := by decide
theorem RES_eq (l : List UInt8) : RES l = RE l := by
  unfold RES
  by_cases h1 : 32 ∈ l ∧ 32 ∉ (cut1 32 l).2
  · rw [if_pos h1]
    by_cases h2 : 47 ∈ (cut1 32 l).2 ∧ 47 ∉ (cut1 47 (cut1 32 l).2).2
    · rw [if_pos h2]
    · rw [if_neg h2]
      refine (combE_3 ?_).symm
      by_cases h3 : 47 ∈ (cut1 32 l).2
      · exact readDec_bad (Classical.byContradiction fun h4 => h2 ⟨h3, h4⟩) isD47 (by decide)
      · rw [cut1_none h3]; exact readDec_nil
  · rw [if_neg h1]
    by_cases h3 : 32 ∈ l
    · have h4 : 32 ∈ (cut1 32 l).2 := Classical.byContradiction fun h4 => h1 ⟨h3, h4⟩
      by_cases h5 : 47 ∈ (cut1 32 l).2
      · have h6 := cut1_parts h5
        have h7 : 32 ∈ (cut1 47 (cut1 32 l).2).1 ∨ 32 ∈ (cut1 47 (cut1 32 l).2).2 := by
          rw [h6] at h4
          rcases List.mem_append.1 h4 with h | h
          · exact .inl h
          · rcases List.mem_cons.1 h with h | h
            · exact absurd h (by decide)
            · exact .inr h
        rcases h7 with h7 | h7
        · exact (combE_2 (readDec_bad h7 isD32 (by decide))).symm
        · exact (combE_3 (readDec_bad h7 isD32 (by decide))).symm
      · refine (combE_3 ?_).symm
        rw [cut1_none h5]; exact readDec_nil
    · refine (combE_3 ?_).symm
      rw [cut1_none h3]; exact readDec_nil
theorem specRE_ev (l : List UInt8) (h : l.length ≤ 1048576) : Ev (fun k => spec_ReadEllipsoid.f k (bs l)) (RES l) := by
  have h1 := cut1_len 32 l
  have h2 := cut1_len 47 (cut1 32 l).2
  obtain ⟨K1, hK1⟩ := l01Split_ev 32 l (by omega)
  obtain ⟨K2, hK2⟩ := l01Split_ev 47 (cut1 32 l).2 (by omega)
  obtain ⟨K3, hK3⟩ := l01Number_ev (cut1 32 l).1 (by omega)
  obtain ⟨K4, hK4⟩ := l01Number_ev (cut1 47 (cut1 32 l).2).1 (by omega)
  obtain ⟨K5, hK5⟩ := l01Number_ev (cut1 47 (cut1 32 l).2).2 (by omega)
  refine ⟨max K1 (max K2 (max K3 (max K4 K5))), fun k hk => ?_⟩
  have e1 : spec_l01Split.f k (bs l) 32 = _ := hK1 k (by omega)
  have e2 : spec_l01Split.f k (bs (cut1 32 l).2) 47 = _ := hK2 k (by omega)
  have e3 := hK3 k (by omega)
  have e4 := hK4 k (by omega)
  have e5 := hK5 k (by omega)
  simp only at e3 e4 e5
  simp only [spec_ReadEllipsoid.f]
  rw [e1, Option.bind_some]
  unfold RES
  by_cases c1 : 32 ∈ l ∧ 32 ∉ (cut1 32 l).2
  · rw [if_pos c1, split_two_of c1.1 c1.2]
    simp only [List.map_cons, List.map_nil]
    rw [if_pos (by rfl), if_pos (by show (1 : Int) < 2; omega)]
    rw [show rdOf ByteArray.empty [bs (cut1 32 l).1, bs (cut1 32 l).2] 1 = bs (cut1 32 l).2 from rfl, show rdOf ByteArray.empty [bs (cut1 32 l).1, bs (cut1 32 l).2] 0 = bs (cut1 32 l).1 from rfl, e2, Option.bind_some]
    by_cases c2 : 47 ∈ (cut1 32 l).2 ∧ 47 ∉ (cut1 47 (cut1 32 l).2).2
    · rw [if_pos c2, split_two_of c2.1 c2.2]
      simp only [List.map_cons, List.map_nil]
      rw [if_pos (by rfl), if_pos (by show (0 : Int) < 2; omega), e3, Option.bind_some, if_pos (by show (0 : Int) < 2; omega)]
      rw [show rdOf ByteArray.empty [bs (cut1 47 (cut1 32 l).2).1, bs (cut1 47 (cut1 32 l).2).2] 0 = bs (cut1 47 (cut1 32 l).2).1 from rfl, e4, Option.bind_some, if_pos (by show (1 : Int) < 2; omega)]
      rw [show rdOf ByteArray.empty [bs (cut1 47 (cut1 32 l).2).1, bs (cut1 47 (cut1 32 l).2).2] 1 = bs (cut1 47 (cut1 32 l).2).2 from rfl, e5, Option.bind_some]
      unfold RE combE
      simp only [l12Ok_f, Option.bind_some, ite_some]
    · rw [if_neg c2, if_neg]
      have := split_other c2
      rw [List.length_map]
      omega
  · rw [if_neg c1, if_neg]
    have := split_other c1
    rw [List.length_map]
    omega
theorem lawReadEllipsoid (s : ByteArray) : ∃ k, laws_FnExactReadEllipsoid.f k s = some true := by
  rw [← bs_toList s]
  generalize s.data.toList = l
  by_cases h : l.length ≤ 1048576
  · obtain ⟨K, hK⟩ := specRE_ev l h
    refine ⟨K, ?_⟩
    have e := hK K (Nat.le_refl _)
    simp only at e
    rw [RES_eq] at e
    unfold laws_FnExactReadEllipsoid.f
    rw [if_neg (by rw [bs_size]; omega), e, Option.bind_some, implRE_f l (by omega), Option.bind_some]
    simp [laws_eqEllipsoid.f]
  · refine ⟨0, ?_⟩
    unfold laws_FnExactReadEllipsoid.f
    rw [if_pos (by rw [bs_size]; omega)]
end Go.Proofs.YtoncbpohjdackaaDoor.TX
