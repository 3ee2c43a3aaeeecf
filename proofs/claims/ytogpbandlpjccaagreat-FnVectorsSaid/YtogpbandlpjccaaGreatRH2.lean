/- Sines and cosines of a single angle; turning keeps lengths. -/
import Derived.Test.YtogpbandlpjccaaGreatRG2
set_option linter.unusedVariables false
set_option linter.unusedSimpArgs false
namespace Go.G880.Re
open Go Go.RX Go.G880 Go.Rl

theorem upHR {t : Int} {o : Iv} {q : Int} {x : R} (h : HR o x) : HR (upH t o q) x := by
  unfold upH
  cases (andI .i64 (w64 (q + t)) 3 == 1)
  · cases (andI .i64 (w64 (q + t)) 3 == 3)
    · exact h
    · exact HullR (.inl h)
  · exact HullR (.inl h)
theorem goFR {X : Iv} {t : Int} {x : R} : ∀ (n : Nat) (k : Int) (o : Iv), HR o x → HR (goF X t n k o) x := by
  intro n
  induction n with
  | zero => intro k o h; exact h
  | succ n ih =>
    intro k o h
    simp only [goF]
    cases spec_OverlapI (spec_TurnI k) X
    · exact ih _ _ h
    · exact ih _ _ (upHR h)
/-- What the loop over the quarter turns comes to. -/
theorem over_val (X : Iv) (t : Int) (h : spec_l06Fits X = true) : ∃ n : Nat, ((n : Int) = spec_QuarterOf X.hi + 2 - (spec_QuarterOf X.lo - 1) ∨ (n = 0 ∧ spec_QuarterOf X.hi + 2 ≤ spec_QuarterOf X.lo - 1)) ∧
    spec_l06Over X t = goF X t n (spec_QuarterOf X.lo - 1) (spec_HullI (spec_l06At X.lo t) (spec_l06At X.hi t)) := by
  obtain ⟨n, h1, h2, _⟩ := turns_val X
  have q2 := Quarter_rng X.lo
  have q1 := Quarter_rng X.hi
  refine ⟨n, h2, ?_⟩
  have e1 := over_fin X t n 802 (spec_QuarterOf X.lo - 1) (spec_HullI (spec_l06At X.lo t) (spec_l06At X.hi t)) (by omega) (by omega) (by omega)
  simp only [spec_l06Over, h, Bool.not_true, cond_false, spec_l06Over.fin5]
  rw [w64_id (n := spec_QuarterOf X.lo - 1) (by omega) (by omega), e1]
theorem OverPt (n t : Int) : HR (spec_l06Over ⟨n, n⟩ t) (sin (fR n + (t : R) * qt)) := by
  cases h : spec_l06Fits ⟨n, n⟩
  · simp only [spec_l06Over, h, Bool.not_false, cond_true]
    exact ringR (sin_bd _)
  obtain ⟨m, _, e⟩ := over_val ⟨n, n⟩ t h
  rw [e]
  exact goFR _ _ _ (HullR (.inl (AtR n t)))
theorem SinPt (n : Int) : HR (spec_SinI ⟨n, n⟩) (sin (fR n)) := (OverPt n 0).eq (by
  have : ((0 : Int) : R) = 0 := rfl
  rw [this]; congr 1; grind)
theorem CosPt (n : Int) : HR (spec_CosI ⟨n, n⟩) (cos (fR n)) := (OverPt n 1).eq (by
  have : ((1 : Int) : R) = 1 := rfl
  rw [this, ← sin_shift]; congr 1; grind)

/-! ### Vectors -/
structure R3 where
  x : R
  y : R
  z : R
def VR (A : V3) (p : R3) : Prop := HR A.x p.x ∧ HR A.y p.y ∧ HR A.z p.z
noncomputable def dotR (p q : R3) : R := p.x * q.x + p.y * q.y + p.z * q.z
noncomputable def crossR (p q : R3) : R3 := ⟨p.y * q.z - p.z * q.y, p.z * q.x - p.x * q.z, p.x * q.y - p.y * q.x⟩
noncomputable def lows (A : V3) : R3 := ⟨fR A.x.lo, fR A.y.lo, fR A.z.lo⟩
theorem lowsR (A : V3) : VR A (lows A) := ⟨hr_lo _, hr_lo _, hr_lo _⟩
theorem DotRR {A B : V3} {p q : R3} (ha : VR A p) (hb : VR B q) : HR (spec_DotV A B) (dotR p q) := AddR (AddR (MulR ha.1 hb.1) (MulR ha.2.1 hb.2.1)) (MulR ha.2.2 hb.2.2)
theorem CrossRR {A B : V3} {p q : R3} (ha : VR A p) (hb : VR B q) : VR (spec_CrossV A B) (crossR p q) :=
  ⟨SubR (MulR ha.2.1 hb.2.2) (MulR ha.2.2 hb.2.1), SubR (MulR ha.2.2 hb.1) (MulR ha.1 hb.2.2), SubR (MulR ha.1 hb.2.1) (MulR ha.2.1 hb.1)⟩
theorem TurnVR {A B : Iv} {a b c s : R} {g : Iv} (ha : HR A a) (hb : HR B b) (hc : HR (spec_CosI g) c) (hs : HR (spec_SinI g) s) :
    HR (spec_l10Turn A B g).1 (a * c - b * s) ∧ HR (spec_l10Turn A B g).2 (a * s + b * c) :=
  ⟨SubR (MulR ha hc) (MulR hb hs), AddR (MulR ha hs) (MulR hb hc)⟩
theorem norm_eq {x y z a b c : R} (h : a * a + b * b + c * c = x * x + y * y + z * z) : norm a b c = norm x y z := by unfold norm; rw [h]
theorem norm_sq (x y z : R) : norm x y z * norm x y z = x * x + y * y + z * z := by
  have := R.sq_nn x; have := R.sq_nn y; have := R.sq_nn z
  exact sqrt_sq (by grind)
theorem overV {A B : V3} {p : R3} (ha : VR A p) (hb : VR B p) : spec_OverlapV A B = true := by
  simp only [spec_OverlapV, OverR ha.1 hb.1, OverR ha.2.1 hb.2.1, OverR ha.2.2 hb.2.2, cond_true]
/-- A direction's length. -/
theorem unit_norm {A : V3} {p : R3} (h : VR A p) : HR (spec_NormV (spec_UnitV A)) 1 := by
  have hn := NormR h.1 h.2.1 h.2.2
  have hd := NormR (A := spec_UnitV A) (DivR h.1 hn) (DivR h.2.1 hn) (DivR h.2.2 hn)
  have nn : 0 ≤ norm p.x p.y p.z := sqrt_nn _
  by_cases h0 : norm p.x p.y p.z = 0
  · intro hk
    exfalso
    have bad : spec_l04Ok (spec_UnitV A).x = false := by
      cases hx : spec_l04Ok (spec_UnitV A).x
      · rfl
      exfalso
      obtain ⟨_, o2, o3⟩ := Nw.DivI_ok2 (show spec_l04Ok (spec_DivI A.x (spec_NormV A)) = true from hx)
      have hb := hn o2
      rw [h0, ← fR_zero] at hb
      have := (l00In_iff 0 (spec_NormV A).lo (spec_NormV A).hi).2 ⟨fR_le.1 hb.1, fR_le.1 hb.2⟩
      rw [spec_l04Has] at o3
      rw [o3] at this
      cases this
    rw [← NormV_eq] at hk
    simp only [impl_NormV, areBounded_eq, isWhole_eq, whole_eq, bad, Bool.false_and, Bool.not_false, cond_true] at hk
    exact absurd hk (by decide)
  · refine hd.eq ?_
    have sq := norm_sq p.x p.y p.z
    generalize norm p.x p.y p.z = r at *
    have : norm (p.x / r) (p.y / r) (p.z / r) = 1 := by
      refine sqrt_of (by grind) ?_
      have e : (p.x / r) * (p.x / r) + (p.y / r) * (p.y / r) + (p.z / r) * (p.z / r) = (p.x * p.x + p.y * p.y + p.z * p.z) / (r * r) := by grind
      rw [e, ← sq]
      have : r * r ≠ 0 := by grind
      grind
    exact this.symm
end Go.G880.Re
