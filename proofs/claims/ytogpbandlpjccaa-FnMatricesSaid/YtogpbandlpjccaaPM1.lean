/- Products and inverses of matrices enclose. -/
import Derived.Test.YtogpbandlpjccaaPM0
set_option linter.unusedVariables false
set_option linter.unusedSimpArgs false
namespace Go.G880.Nw
open Go Go.RX Go.G880 Go.Newton

theorem SubW {A B : Iv} {a b : Rat} (ha : HasW A a) (hb : HasW B b) : HasW (spec_SubI A B) (a - b) := fun h => SubI_has (ha (SubI_ok2 h).1) (hb (SubI_ok2 h).2) h
/-- A quotient by any number of the divisor. -/
theorem div_between {y1 y2 : Int} {a d r r1 r2 : Rat} (hz : ¬ (y1 ≤ 0 ∧ 0 ≤ y2)) (h12 : y1 ≤ y2) (h1 : (y1 : Rat) ≤ d * 4294967296) (h2 : d * 4294967296 ≤ (y2 : Rat)) (e : d * r = a) (e1 : (y1 : Rat) * r1 = a * 4294967296) (e2 : (y2 : Rat) * r2 = a * 4294967296) :
    (r1 ≤ r ∨ r2 ≤ r) ∧ (r ≤ r1 ∨ r ≤ r2) := by
  have z0 : ((0 : Int) : Rat) = 0 := rfl
  have c12 := cst h12
  by_cases hp : 0 < y1
  · have p1 : (0 : Rat) < (y1 : Rat) := by have : ((0 : Int) : Rat) < (y1 : Rat) := by exact_mod_cast hp
                                           rwa [z0] at this
    have pd : (0 : Rat) < d * 4294967296 := by grind
    have p2 : (0 : Rat) < (y2 : Rat) := by grind
    by_cases ha : 0 ≤ a
    · have r0 : 0 ≤ r := le_of_mul_le pd (by grind)
      constructor
      · right
        have := Rat.mul_le_mul_of_nonneg_left h2 r0
        exact le_of_mul_le p2 (by grind)
      · left
        have := Rat.mul_le_mul_of_nonneg_left h1 r0
        exact le_of_mul_le p1 (by grind)
    · have r0 : 0 ≤ -r := le_of_mul_le pd (by grind)
      constructor
      · left
        have := Rat.mul_le_mul_of_nonneg_left h1 r0
        exact le_of_mul_le p1 (by grind)
      · right
        have := Rat.mul_le_mul_of_nonneg_left h2 r0
        exact le_of_mul_le p2 (by grind)
  · have hn : y2 < 0 := by omega
    have p2 : (0 : Rat) < -(y2 : Rat) := by have : (y2 : Rat) < ((0 : Int) : Rat) := by exact_mod_cast hn
                                            rw [z0] at this
                                            grind
    have pd : (0 : Rat) < -(d * 4294967296) := by grind
    have p1 : (0 : Rat) < -(y1 : Rat) := by grind
    by_cases ha : 0 ≤ a
    · have r0 : 0 ≤ -r := le_of_mul_le pd (by grind)
      constructor
      · right
        have := Rat.mul_le_mul_of_nonneg_left h2 r0
        exact le_of_mul_le p2 (by grind)
      · left
        have := Rat.mul_le_mul_of_nonneg_left h1 r0
        exact le_of_mul_le p1 (by grind)
    · have r0 : 0 ≤ r := le_of_mul_le pd (by grind)
      constructor
      · left
        have := Rat.mul_le_mul_of_nonneg_left h1 r0
        exact le_of_mul_le p1 (by grind)
      · right
        have := Rat.mul_le_mul_of_nonneg_left h2 r0
        exact le_of_mul_le p2 (by grind)
theorem quot_ex {y : Int} {a : Rat} (hy : y ≠ 0) : ∃ r : Rat, (y : Rat) * r = a * 4294967296 := by
  have hne : (y : Rat) ≠ 0 := by
    intro h
    have : ((y : Int) : Rat) = ((0 : Int) : Rat) := h
    exact hy (by exact_mod_cast this)
  refine ⟨(y : Rat)⁻¹ * (a * 4294967296), ?_⟩
  rw [← Rat.mul_assoc, Rat.mul_inv_cancel _ hne, Rat.one_mul]
theorem DivW {A B : Iv} {a d r : Rat} (ha : HasW A a) (hd : HasW B d) (e : d * r = a) : HasW (spec_DivI A B) r := by
  intro h
  obtain ⟨o1, o2, o3⟩ := DivI_ok2 h
  have hB := (ok_iff _).1 o2
  have hz : ¬ (B.lo ≤ 0 ∧ 0 ≤ B.hi) := mt (l00In_iff 0 B.lo B.hi).2 (by rw [spec_l04Has] at o3; rw [o3]; simp)
  obtain ⟨r1, e1⟩ := quot_ex (y := B.lo) (a := a) (by omega)
  obtain ⟨r2, e2⟩ := quot_ex (y := B.hi) (a := a) (by omega)
  have d1 := DivI_has (ha o1) h B.lo (Or.inl rfl) e1
  have d2 := DivI_has (ha o1) h B.hi (Or.inr rfl) e2
  have b := div_between hz hB.2.1 (hd o2).1 (hd o2).2 e e1 e2
  constructor
  · rcases b.1 with g | g
    · exact Rat.le_trans d1.1 (scale_le g)
    · exact Rat.le_trans d2.1 (scale_le g)
  · rcases b.2 with g | g
    · exact Rat.le_trans (scale_le g) d1.2
    · exact Rat.le_trans (scale_le g) d2.2
theorem OverW {A B : Iv} {q : Rat} (ha : HasW A q) (hb : HasW B q) : spec_OverlapI A B = true := by
  simp only [spec_OverlapI, spec_MeetI]
  cases kA : spec_l04Ok A
  · cases kB : spec_l04Ok B <;> simp
  cases kB : spec_l04Ok B
  · simp
  have a := ha kA
  have b := hb kB
  have h1 : A.lo ≤ B.hi := by have := Rat.le_trans a.1 b.2; exact_mod_cast this
  have h2 : B.lo ≤ A.hi := by have := Rat.le_trans b.1 a.2; exact_mod_cast this
  have iA := (ok_iff _).1 kA
  have iB := (ok_iff _).1 kB
  have : decide (spec_l00Max A.lo B.lo > spec_l00Min A.hi B.hi) = false := by
    refine decide_eq_false ?_
    simp only [spec_l00Max, spec_l00Min, Bool.cond_eq_ite, decide_eq_true_eq]
    split <;> split <;> omega
  simp only [Bool.not_true, cond_false, this]

/-! ### Vectors and matrices of numbers -/
structure Q3 where
  x : Rat
  y : Rat
  z : Rat
structure QM where
  a : Q3
  b : Q3
  c : Q3
def VW (A : V3) (q : Q3) : Prop := HasW A.x q.x ∧ HasW A.y q.y ∧ HasW A.z q.z
def MW (A : M3) (q : QM) : Prop := VW A.a q.a ∧ VW A.b q.b ∧ VW A.c q.c
def dot (p q : Q3) : Rat := p.x * q.x + p.y * q.y + p.z * q.z
def cross (p q : Q3) : Q3 := ⟨p.y * q.z - p.z * q.y, p.z * q.x - p.x * q.z, p.x * q.y - p.y * q.x⟩
def app (m : QM) (v : Q3) : Q3 := ⟨dot m.a v, dot m.b v, dot m.c v⟩
def cols (m : QM) : QM := ⟨⟨m.a.x, m.b.x, m.c.x⟩, ⟨m.a.y, m.b.y, m.c.y⟩, ⟨m.a.z, m.b.z, m.c.z⟩⟩
def mul (m n : QM) : QM := ⟨app (cols n) m.a, app (cols n) m.b, app (cols n) m.c⟩
def lows (A : V3) : Q3 := ⟨fx A.x.lo, fx A.y.lo, fx A.z.lo⟩
def lowm (A : M3) : QM := ⟨lows A.a, lows A.b, lows A.c⟩
theorem lowsW (A : V3) : VW A (lows A) := ⟨fun h => has_lo h, fun h => has_lo h, fun h => has_lo h⟩
theorem lowmW (A : M3) : MW A (lowm A) := ⟨lowsW _, lowsW _, lowsW _⟩
theorem dotW {A B : V3} {p q : Q3} (ha : VW A p) (hb : VW B q) : HasW (spec_DotV A B) (dot p q) := AddW (AddW (MulW ha.1 hb.1) (MulW ha.2.1 hb.2.1)) (MulW ha.2.2 hb.2.2)
theorem crossW {A B : V3} {p q : Q3} (ha : VW A p) (hb : VW B q) : VW (spec_CrossV A B) (cross p q) :=
  ⟨SubW (MulW ha.2.1 hb.2.2) (MulW ha.2.2 hb.2.1), SubW (MulW ha.2.2 hb.1) (MulW ha.1 hb.2.2), SubW (MulW ha.1 hb.2.1) (MulW ha.2.1 hb.1)⟩
theorem appW {A : M3} {B : V3} {p : QM} {q : Q3} (ha : MW A p) (hb : VW B q) : VW (spec_ApplyM A B) (app p q) := ⟨dotW ha.1 hb, dotW ha.2.1 hb, dotW ha.2.2 hb⟩
theorem colsW {A : M3} {p : QM} (ha : MW A p) : MW (spec_l10Columns A) (cols p) := ⟨⟨ha.1.1, ha.2.1.1, ha.2.2.1⟩, ⟨ha.1.2.1, ha.2.1.2.1, ha.2.2.2.1⟩, ⟨ha.1.2.2, ha.2.1.2.2, ha.2.2.2.2⟩⟩
theorem mulW {A B : M3} {p q : QM} (ha : MW A p) (hb : MW B q) : MW (spec_MulM A B) (mul p q) := ⟨appW (colsW hb) ha.1, appW (colsW hb) ha.2.1, appW (colsW hb) ha.2.2⟩
theorem overV {A B : V3} {q : Q3} (ha : VW A q) (hb : VW B q) : spec_OverlapV A B = true := by
  simp only [spec_OverlapV, OverW ha.1 hb.1, OverW ha.2.1 hb.2.1, OverW ha.2.2 hb.2.2, cond_true]
theorem mul_app (p q : QM) (v : Q3) : app (mul p q) v = app p (app q v) := by
  simp only [app, mul, cols, dot, Q3.mk.injEq]
  refine ⟨?_, ?_, ?_⟩ <;> grind
/-- Products act one after the other. -/
theorem law_product (m n : M3) (v : V3) : spec_OverlapV (spec_ApplyM (spec_MulM m n) v) (spec_ApplyM m (spec_ApplyM n v)) = true := by
  have a := appW (mulW (lowmW m) (lowmW n)) (lowsW v)
  rw [mul_app] at a
  exact overV a (appW (lowmW m) (appW (lowmW n) (lowsW v)))
theorem unitV (a b c : Int) : VW ⟨spec_Integer a, spec_Integer b, spec_Integer c⟩ ⟨(a : Rat), (b : Rat), (c : Rat)⟩ := ⟨IntegerW a, IntegerW b, IntegerW c⟩
theorem inv_ex {d : Rat} (a : Rat) (h : d ≠ 0) : ∃ r : Rat, d * r = a := ⟨d⁻¹ * a, by rw [← Rat.mul_assoc, Rat.mul_inv_cancel _ h, Rat.one_mul]⟩
theorem lin {d x y z ax ay az cx cy cz t : Rat} (hx : d * x = cx) (hy : d * y = cy) (hz : d * z = cz) (hd : d ≠ 0) (h : ax * cx + ay * cy + az * cz = d * t) : x * ax + y * ay + z * az = t := by
  have e : d * (x * ax + y * ay + z * az) = d * t := by
    rw [← h, ← hx, ← hy, ← hz]
    grind
  have e2 := congrArg (fun t => d⁻¹ * t) e
  simp only [← Rat.mul_assoc, Rat.inv_mul_cancel _ hd, Rat.one_mul] at e2
  exact e2
theorem det_a (a b c : Q3) : a.x * (cross b c).x + a.y * (cross b c).y + a.z * (cross b c).z = dot a (cross b c) * 1 := by
  simp only [dot, cross]; grind
theorem det_0 (a c : Q3) (d : Rat) : a.x * (cross c a).x + a.y * (cross c a).y + a.z * (cross c a).z = d * 0 := by
  simp only [cross]; grind
theorem det_1 (a b : Q3) (d : Rat) : a.x * (cross a b).x + a.y * (cross a b).y + a.z * (cross a b).z = d * 0 := by
  simp only [cross]; grind
theorem det_b (a b c : Q3) : b.x * (cross c a).x + b.y * (cross c a).y + b.z * (cross c a).z = dot a (cross b c) * 1 := by
  simp only [dot, cross]; grind
theorem det_c (a b c : Q3) : c.x * (cross a b).x + c.y * (cross a b).y + c.z * (cross a b).z = dot a (cross b c) * 1 := by
  simp only [dot, cross]; grind
/-- A matrix times its inverse. -/
theorem law_inverse (m : M3) (h : (spec_InverseM m).2 = true) :
    spec_OverlapV (spec_MulM m (spec_InverseM m).1).a ⟨spec_Integer 1, spec_Integer 0, spec_Integer 0⟩ = true ∧
    spec_OverlapV (spec_MulM m (spec_InverseM m).1).b ⟨spec_Integer 0, spec_Integer 1, spec_Integer 0⟩ = true ∧
    spec_OverlapV (spec_MulM m (spec_InverseM m).1).c ⟨spec_Integer 0, spec_Integer 0, spec_Integer 1⟩ = true := by
  have hm := lowmW m
  generalize lowm m = p at hm
  have bc := crossW hm.2.1 hm.2.2
  have ca := crossW hm.2.2 hm.1
  have ab := crossW hm.1 hm.2.1
  have det := dotW hm.1 bc
  simp only [spec_InverseM] at h ⊢
  cases hk : spec_HasI (spec_DotV m.a (spec_CrossV m.b m.c)) 0
  case true => rw [hk] at h; simp at h
  simp only [cond_false]
  have hk2 : spec_l04Ok (spec_DotV m.a (spec_CrossV m.b m.c)) = true ∧ spec_l04Has (spec_DotV m.a (spec_CrossV m.b m.c)) 0 = false := by
    simp only [spec_HasI] at hk
    cases k : spec_l04Ok (spec_DotV m.a (spec_CrossV m.b m.c))
    · rw [k] at hk; simp at hk
    · rw [k] at hk; simpa using hk
  generalize spec_DotV m.a (spec_CrossV m.b m.c) = D at *
  have hd0 : dot p.a (cross p.b p.c) ≠ 0 := by
    intro h0
    have hh := det hk2.1
    rw [h0] at hh
    have n := mt (l00In_iff 0 D.lo D.hi).2 (by rw [← spec_l04Has]; rw [hk2.2]; simp)
    have e0 : (0 : Rat) * 4294967296 = ((0 : Int) : Rat) := by decide +kernel
    have h1 := hh.1
    have h2 := hh.2
    rw [e0] at h1 h2
    exact n ⟨by exact_mod_cast h1, by exact_mod_cast h2⟩
  obtain ⟨x1, ex1⟩ := inv_ex (cross p.b p.c).x hd0
  obtain ⟨x2, ex2⟩ := inv_ex (cross p.c p.a).x hd0
  obtain ⟨x3, ex3⟩ := inv_ex (cross p.a p.b).x hd0
  obtain ⟨y1, ey1⟩ := inv_ex (cross p.b p.c).y hd0
  obtain ⟨y2, ey2⟩ := inv_ex (cross p.c p.a).y hd0
  obtain ⟨y3, ey3⟩ := inv_ex (cross p.a p.b).y hd0
  obtain ⟨z1, ez1⟩ := inv_ex (cross p.b p.c).z hd0
  obtain ⟨z2, ez2⟩ := inv_ex (cross p.c p.a).z hd0
  obtain ⟨z3, ez3⟩ := inv_ex (cross p.a p.b).z hd0
  have hb : MW (M3.mk (spec_l10Over (spec_l10Columns (M3.mk (spec_CrossV m.b m.c) (spec_CrossV m.c m.a) (spec_CrossV m.a m.b))).a D) (spec_l10Over (spec_l10Columns (M3.mk (spec_CrossV m.b m.c) (spec_CrossV m.c m.a) (spec_CrossV m.a m.b))).b D) (spec_l10Over (spec_l10Columns (M3.mk (spec_CrossV m.b m.c) (spec_CrossV m.c m.a) (spec_CrossV m.a m.b))).c D)) ⟨⟨x1, x2, x3⟩, ⟨y1, y2, y3⟩, ⟨z1, z2, z3⟩⟩ :=
    ⟨⟨DivW bc.1 det ex1, DivW ca.1 det ex2, DivW ab.1 det ex3⟩, ⟨DivW bc.2.1 det ey1, DivW ca.2.1 det ey2, DivW ab.2.1 det ey3⟩, ⟨DivW bc.2.2 det ez1, DivW ca.2.2 det ez2, DivW ab.2.2 det ez3⟩⟩
  have hp := mulW hm hb
  have one0 : ((0 : Int) : Rat) = 0 := rfl
  have one1 : ((1 : Int) : Rat) = 1 := rfl
  have eM : mul p ⟨⟨x1, x2, x3⟩, ⟨y1, y2, y3⟩, ⟨z1, z2, z3⟩⟩ = ⟨⟨1, 0, 0⟩, ⟨0, 1, 0⟩, ⟨0, 0, 1⟩⟩ := by
    simp only [mul, app, cols, QM.mk.injEq, Q3.mk.injEq]
    exact ⟨⟨lin ex1 ey1 ez1 hd0 (det_a _ _ _), lin ex2 ey2 ez2 hd0 (det_0 _ _ _), lin ex3 ey3 ez3 hd0 (det_1 _ _ _)⟩,
      ⟨lin ex1 ey1 ez1 hd0 (det_1 _ _ _), lin ex2 ey2 ez2 hd0 (det_b _ _ _), lin ex3 ey3 ez3 hd0 (det_0 _ _ _)⟩,
      ⟨lin ex1 ey1 ez1 hd0 (det_0 _ _ _), lin ex2 ey2 ez2 hd0 (det_1 _ _ _), lin ex3 ey3 ez3 hd0 (det_c _ _ _)⟩⟩
  rw [eM] at hp
  have u1 := unitV 1 0 0
  have u2 := unitV 0 1 0
  have u3 := unitV 0 0 1
  simp only [one0, one1] at u1 u2 u3
  exact ⟨overV hp.1 u1, overV hp.2.1 u2, overV hp.2.2 u3⟩
end Go.G880.Nw
