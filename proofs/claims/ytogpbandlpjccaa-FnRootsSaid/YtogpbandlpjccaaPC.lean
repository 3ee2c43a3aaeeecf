/- Polynomials over the rationals: the mean value bounds, by subdivision. -/
import Derived.Test.YtogpbandlpjccaaPB
namespace Go.Newton
def evp : List Rat → Rat → Rat
 | [], _ => 0
 | c :: q, u => c + u * evp q u
def dv : List Rat → Rat → Rat
 | [], _ => 0
 | _ :: q, u => evp q u + u * dv q u
def Dk : Nat → List Rat → List Rat
 | _, [] => []
 | k, c :: q => (k : Rat) * c :: Dk (k + 1) q
theorem ev_Dk (q : List Rat) (u : Rat) : ∀ k : Nat, evp (Dk k q) u = (k : Rat) * evp q u + u * dv q u := by
 induction q with
 | nil => intro k; simp only [Dk, evp, dv]; grind
 | cons c q ih =>
  intro k
  simp only [Dk, evp, dv]
  rw [ih (k + 1)]
  have : ((k + 1 : Nat) : Rat) = (k : Rat) + 1 := by simp
  rw [this]
  grind
theorem ev_D (c : Rat) (q : List Rat) (u : Rat) : evp (Dk 1 q) u = dv (c :: q) u := by
 rw [ev_Dk]; simp only [dv]; have : ((1 : Nat) : Rat) = 1 := by simp
 rw [this]; grind
theorem mul_le (a b A B : Rat) (h1 : -A ≤ a) (h2 : a ≤ A) (h3 : -B ≤ b) (h4 : b ≤ B) : a * b ≤ A * B ∧ -(A * B) ≤ a * b := by
 have p1 : 0 ≤ (A - a) * (B + b) := Rat.mul_nonneg (by grind) (by grind)
 have p2 : 0 ≤ (A + a) * (B - b) := Rat.mul_nonneg (by grind) (by grind)
 have p3 : 0 ≤ (A - a) * (B - b) := Rat.mul_nonneg (by grind) (by grind)
 have p4 : 0 ≤ (A + a) * (B + b) := Rat.mul_nonneg (by grind) (by grind)
 constructor <;> grind
theorem ev_bound (M : Rat) (hM : 0 ≤ M) (q : List Rat) : ∃ B : Rat, 0 ≤ B ∧ ∀ u, -M ≤ u → u ≤ M → -B ≤ evp q u ∧ evp q u ≤ B := by
 induction q with
 | nil => exact ⟨0, by grind, fun u _ _ => by simp only [evp]; grind⟩
 | cons c q ih =>
  obtain ⟨B, hB, h⟩ := ih
  refine ⟨(if 0 ≤ c then c else -c) + M * B, ?_, fun u h1 h2 => ?_⟩
  ·have := Rat.mul_nonneg hM hB
   grind
  ·obtain ⟨g1, g2⟩ := h u h1 h2
   have := mul_le u (evp q u) M B h1 h2 g1 g2
   simp only [evp]
   grind
theorem dv_bound (M : Rat) (hM : 0 ≤ M) (q : List Rat) : ∃ B : Rat, 0 ≤ B ∧ ∀ u, -M ≤ u → u ≤ M → -B ≤ dv q u ∧ dv q u ≤ B := by
 cases q with
 | nil => exact ⟨0, by grind, fun u _ _ => by simp only [dv]; grind⟩
 | cons c q =>
  obtain ⟨B, hB, h⟩ := ev_bound M hM (Dk 1 q)
  exact ⟨B, hB, fun u h1 h2 => by rw [← ev_D c q u]; exact h u h1 h2⟩
theorem sq_nonneg' (x : Rat) : 0 ≤ x * x := by
 by_cases h : 0 ≤ x
 ·exact Rat.mul_nonneg h h
 ·have := Rat.mul_nonneg (a := -x) (b := -x) (by grind) (by grind)
  grind
theorem taylor (M : Rat) (hM : 0 ≤ M) (p : List Rat) : ∃ K : Rat, 0 ≤ K ∧ ∀ u v, -M ≤ u → u ≤ M → -M ≤ v → v ≤ M →
  -(K * ((v - u) * (v - u))) ≤ evp p v - evp p u - dv p u * (v - u) ∧ evp p v - evp p u - dv p u * (v - u) ≤ K * ((v - u) * (v - u)) := by
 induction p with
 | nil => exact ⟨0, by grind, fun u v _ _ _ _ => by simp only [evp, dv]; grind⟩
 | cons c q ih =>
  obtain ⟨K, hK, h⟩ := ih
  obtain ⟨B, hB, hb⟩ := dv_bound M hM q
  refine ⟨M * K + B, by have := Rat.mul_nonneg hM hK; grind, fun u v hu1 hu2 hv1 hv2 => ?_⟩
  obtain ⟨t1, t2⟩ := h u v hu1 hu2 hv1 hv2
  obtain ⟨b1, b2⟩ := hb u hu1 hu2
  have e : evp (c :: q) v - evp (c :: q) u - dv (c :: q) u * (v - u) = v * (evp q v - evp q u - dv q u * (v - u)) + dv q u * ((v - u) * (v - u)) := by
   simp only [evp, dv]; grind
  rw [e]
  have hs := sq_nonneg' (v - u)
  generalize (v - u) * (v - u) = S at *
  generalize evp q v - evp q u - dv q u * (v - u) = T at *
  have m1 := mul_le v T M (K * S) hv1 hv2 t1 t2
  have m2 := mul_le (dv q u) S B S b1 b2 (by grind) (by grind)
  grind
theorem arch (x : Rat) : ∃ N : Nat, 0 < N ∧ x < (N : Rat) := by
 refine ⟨x.ceil.toNat + 1, by omega, ?_⟩
 have h1 : x ≤ (x.ceil : Rat) := Rat.le_ceil
 have h2 : x.ceil ≤ ((x.ceil.toNat : Nat) : Int) := by omega
 have h3 : (x.ceil : Rat) ≤ (((x.ceil.toNat : Nat) : Int) : Rat) := by exact_mod_cast h2
 have h4 : ((x.ceil.toNat + 1 : Nat) : Rat) = (((x.ceil.toNat : Nat) : Int) : Rat) + 1 := by
  rw [Rat.intCast_natCast]
  simp
 rw [h4]
 grind
theorem limit (X C : Rat) (_hC : 0 ≤ C) (h : ∀ N : Nat, 0 < N → -C ≤ (N : Rat) * X) : 0 ≤ X := by
 by_cases hX : 0 ≤ X
 ·exact hX
 ·exfalso
  have hX' : 0 < -X := by grind
  have hne : -X ≠ 0 := by grind
  obtain ⟨N, hN, hb⟩ := arch (C * (-X)⁻¹)
  have h1 := h N hN
  have h2 : C * (-X)⁻¹ * (-X) < (N : Rat) * (-X) := Rat.mul_lt_mul_of_pos_right hb hX'
  have h3 : (-X)⁻¹ * (-X) = 1 := by rw [Rat.mul_comm]; exact Rat.mul_inv_cancel _ hne
  have h4 : C * (-X)⁻¹ * (-X) = C := by rw [Rat.mul_assoc, h3, Rat.mul_one]
  rw [h4] at h2
  grind
theorem mean_lo (p : List Rat) (a b s : Rat) (hd : ∀ u, a ≤ u → u ≤ b → s ≤ dv p u) (t t' : Rat) (h1 : a ≤ t) (h2 : t ≤ t') (h3 : t' ≤ b) : s * (t' - t) ≤ evp p t' - evp p t := by
 obtain ⟨K, hK, hT⟩ := taylor ((if 0 ≤ a then a else -a) + (if 0 ≤ b then b else -b)) (by grind) p
 have main : ∀ N : Nat, 0 < N → -(K * ((t' - t) * (t' - t))) ≤ (N : Rat) * ((evp p t' - evp p t) - s * (t' - t)) := by
  intro N hN
  have hNr : (0 : Rat) < (N : Rat) := by exact_mod_cast hN
  have hNe : (N : Rat) ≠ 0 := by grind
  generalize hh : (t' - t) * (N : Rat)⁻¹ = h
  have hNh : (N : Rat) * h = t' - t := by
   rw [← hh, Rat.mul_comm (t' - t), ← Rat.mul_assoc, Rat.mul_inv_cancel _ hNe, Rat.one_mul]
  have hinv : 0 ≤ (N : Rat)⁻¹ := Rat.le_of_lt (Rat.inv_pos.2 hNr)
  have hh0 : 0 ≤ h := by rw [← hh]; exact Rat.mul_nonneg (by grind) hinv
  have step : ∀ i : Nat, i ≤ N → (i : Rat) * (s * h - K * (h * h)) ≤ evp p (t + (i : Rat) * h) - evp p t := by
   intro i
   induction i with
   | zero =>
    intro _
    have : ((0 : Nat) : Rat) = 0 := by simp
    rw [this, Rat.zero_mul, Rat.zero_mul, Rat.add_zero]
    grind
   | succ i ih =>
    intro hi
    have hi' := ih (by omega)
    have ci : ((i + 1 : Nat) : Rat) = (i : Rat) + 1 := by simp
    have hi0 : (0 : Rat) ≤ (i : Rat) := by exact_mod_cast Nat.zero_le i
    have hle : ((i + 1 : Nat) : Rat) ≤ (N : Rat) := by exact_mod_cast hi
    rw [ci] at hle ⊢
    have g1 : 0 ≤ (i : Rat) * h := Rat.mul_nonneg hi0 hh0
    have g2 : 0 ≤ ((N : Rat) - ((i : Rat) + 1)) * h := Rat.mul_nonneg (by grind) hh0
    have g3 : ((i : Rat) + 1) * h = (i : Rat) * h + h := by grind
    have hu1 : a ≤ t + (i : Rat) * h := by grind
    have hu2 : t + (i : Rat) * h ≤ b := by grind
    have hv1 : a ≤ t + ((i : Rat) + 1) * h := by grind
    have hv2 : t + ((i : Rat) + 1) * h ≤ b := by grind
    have hT' := (hT (t + (i : Rat) * h) (t + ((i : Rat) + 1) * h) (by grind) (by grind) (by grind) (by grind)).1
    have hd' := hd _ hu1 hu2
    have e : t + ((i : Rat) + 1) * h - (t + (i : Rat) * h) = h := by grind
    rw [e] at hT'
    have hm : 0 ≤ (dv p (t + (i : Rat) * h) - s) * h := Rat.mul_nonneg (by grind) hh0
    grind
  have hN' := step N (Nat.le_refl _)
  rw [hNh] at hN'
  have e1 : t + (t' - t) = t' := by grind
  rw [e1] at hN'
  have hmul := Rat.mul_le_mul_of_nonneg_left hN' (Rat.le_of_lt hNr)
  have e2 : (N : Rat) * ((N : Rat) * (s * h - K * (h * h))) = (N : Rat) * (s * (t' - t)) - K * ((t' - t) * (t' - t)) := by
   rw [← hNh]; grind
  rw [e2] at hmul
  grind
 have := limit _ _ (by have := sq_nonneg' (t' - t); exact Rat.mul_nonneg hK this) main
 grind
def ng (p : List Rat) : List Rat := p.map fun c => -c
theorem ev_ng (p : List Rat) (u : Rat) : evp (ng p) u = -(evp p u) := by
 induction p with
 | nil => simp only [ng, List.map_nil, evp]; grind
 | cons c q ih => simp only [ng, List.map_cons, evp] at *; rw [ih]; grind
theorem dv_ng (p : List Rat) (u : Rat) : dv (ng p) u = -(dv p u) := by
 induction p with
 | nil => simp only [ng, List.map_nil, dv]; grind
 | cons c q ih =>
  have := ev_ng q u
  simp only [ng, List.map_cons, dv] at *
  rw [ih, this]; grind
theorem mean_hi (p : List Rat) (a b s : Rat) (hd : ∀ u, a ≤ u → u ≤ b → dv p u ≤ s) (t t' : Rat) (h1 : a ≤ t) (h2 : t ≤ t') (h3 : t' ≤ b) : evp p t' - evp p t ≤ s * (t' - t) := by
 have := mean_lo (ng p) a b (-s) (fun u g1 g2 => by rw [dv_ng]; have := hd u g1 g2; grind) t t' h1 h2 h3
 rw [ev_ng, ev_ng] at this
 grind
theorem qdL {s x y : Rat} (hs : 0 < s) (h : s * x ≤ s * y) : x ≤ y := by
 by_cases hxy : x ≤ y
 ·exact hxy
 ·have := Rat.mul_lt_mul_of_pos_left (show y < x by grind) hs
  grind
theorem newton_pos (p : List Rat) (lo hi m s1 s2 r1 r2 c d : Rat) (hlm : lo ≤ m) (hmh : m ≤ hi) (hs : 0 < s1) (hd1 : ∀ u, lo ≤ u → u ≤ hi → s1 ≤ dv p u) (hd2 : ∀ u, lo ≤ u → u ≤ hi → dv p u ≤ s2)
  (hl : evp p lo ≤ 0) (hh : 0 ≤ evp p hi) (hr1 : s1 * r1 = evp p m) (hr2 : s2 * r2 = evp p m) (c1 : c ≤ m - r1) (c2 : c ≤ m - r2) (d1 : m - r1 ≤ d) (d2 : m - r2 ≤ d) :
  c ≤ hi ∧ lo ≤ d ∧ (lo ≤ c → evp p c ≤ 0) ∧ (d ≤ hi → 0 ≤ evp p d) := by
 have ML := mean_lo p lo hi s1 hd1
 have MH := mean_hi p lo hi s2 hd2
 have hs12 : s1 ≤ s2 := Rat.le_trans (hd1 lo (Rat.le_refl) (by grind)) (hd2 lo (Rat.le_refl) (by grind))
 have hs2 : 0 < s2 := by grind
 by_cases hp : 0 ≤ evp p m
 ·have r1n : 0 ≤ r1 := qdL hs (by grind)
  have r2n : 0 ≤ r2 := qdL hs2 (by grind)
  have a1 := MH lo m (Rat.le_refl) hlm hmh
  have hr2m : r2 ≤ m - lo := qdL hs2 (by grind)
  refine ⟨by grind, by grind, fun hc => ?_, fun hdh => ?_⟩
  ·have a2 := ML c m hc (by grind) hmh
   have a3 := Rat.mul_le_mul_of_nonneg_left (show r1 ≤ m - c by grind) (Rat.le_of_lt hs)
   grind
  ·by_cases hdm : m ≤ d
   ·have a2 := ML m d hlm hdm hdh
    have a3 : 0 ≤ s1 * (d - m) := Rat.mul_nonneg (Rat.le_of_lt hs) (by grind)
    grind
   ·have a2 := MH d m (by grind) (by grind) hmh
    have a3 := Rat.mul_le_mul_of_nonneg_left (show m - d ≤ r2 by grind) (Rat.le_of_lt hs2)
    grind
 ·have r1n : r1 ≤ 0 := qdL hs (by grind)
  have r2n : r2 ≤ 0 := qdL hs2 (by grind)
  have a1 := MH m hi hlm hmh (Rat.le_refl)
  have hr2m : -r2 ≤ hi - m := qdL hs2 (by grind)
  refine ⟨by grind, by grind, fun hc => ?_, fun hdh => ?_⟩
  ·by_cases hcm : c ≤ m
   ·have a2 := ML c m hc hcm hmh
    have a3 : 0 ≤ s1 * (m - c) := Rat.mul_nonneg (Rat.le_of_lt hs) (by grind)
    grind
   ·have a2 := MH m c hlm (by grind) (by grind)
    have a3 := Rat.mul_le_mul_of_nonneg_left (show c - m ≤ -r2 by grind) (Rat.le_of_lt hs2)
    grind
  ·have a2 := ML m d hlm (by grind) hdh
   have a3 := Rat.mul_le_mul_of_nonneg_left (show -r1 ≤ d - m by grind) (Rat.le_of_lt hs)
   grind
def Chg (p : List Rat) (lo hi : Rat) : Prop := (evp p lo ≤ 0 ∧ 0 ≤ evp p hi) ∨ (evp p hi ≤ 0 ∧ 0 ≤ evp p lo)
theorem newton_step (p : List Rat) (lo hi m s1 s2 r1 r2 c d : Rat) (hlm : lo ≤ m) (hmh : m ≤ hi) (hs : 0 < s1 ∨ s2 < 0) (hd1 : ∀ u, lo ≤ u → u ≤ hi → s1 ≤ dv p u) (hd2 : ∀ u, lo ≤ u → u ≤ hi → dv p u ≤ s2)
  (hc : Chg p lo hi) (hr1 : s1 * r1 = evp p m) (hr2 : s2 * r2 = evp p m) (c1 : c ≤ m - r1) (c2 : c ≤ m - r2) (d1 : m - r1 ≤ d) (d2 : m - r2 ≤ d) :
  c ≤ hi ∧ lo ≤ d ∧ Chg p (if lo ≤ c then c else lo) (if d ≤ hi then d else hi) := by
 rcases hs with hs | hs
 ·have hc' : evp p lo ≤ 0 ∧ 0 ≤ evp p hi := by
   rcases hc with h | h
   ·exact h
   ·have a := mean_lo p lo hi s1 hd1 lo hi (Rat.le_refl) (by grind) (Rat.le_refl)
    have b : 0 ≤ s1 * (hi - lo) := Rat.mul_nonneg (Rat.le_of_lt hs) (by grind)
    grind
  obtain ⟨g1, g2, g3, g4⟩ := newton_pos p lo hi m s1 s2 r1 r2 c d hlm hmh hs hd1 hd2 hc'.1 hc'.2 hr1 hr2 c1 c2 d1 d2
  refine ⟨g1, g2, Or.inl ⟨?_, ?_⟩⟩
  ·split
   ·exact g3 (by assumption)
   ·exact hc'.1
  ·split
   ·exact g4 (by assumption)
   ·exact hc'.2
 ·have hc' : evp (ng p) lo ≤ 0 ∧ 0 ≤ evp (ng p) hi := by
   rw [ev_ng, ev_ng]
   rcases hc with h | h
   ·have a := mean_hi p lo hi s2 hd2 lo hi (Rat.le_refl) (by grind) (Rat.le_refl)
    have b : 0 ≤ (-s2) * (hi - lo) := Rat.mul_nonneg (by grind) (by grind)
    grind
   ·grind
  obtain ⟨g1, g2, g3, g4⟩ := newton_pos (ng p) lo hi m (-s2) (-s1) r2 r1 c d hlm hmh (by grind) (fun u a b => by rw [dv_ng]; have := hd2 u a b; grind) (fun u a b => by rw [dv_ng]; have := hd1 u a b; grind) hc'.1 hc'.2 (by rw [ev_ng]; grind) (by rw [ev_ng]; grind) c2 c1 d2 d1
  rw [ev_ng] at g3 g4 hc'
  rw [ev_ng] at hc'
  refine ⟨g1, g2, Or.inr ⟨?_, ?_⟩⟩
  ·split
   ·have := g4 (by assumption); grind
   ·grind
  ·split
   ·have := g3 (by assumption); grind
   ·grind
end Go.Newton
/- The intervals' operations enclose: sums, differences, products, quotients. -/
set_option linter.unusedVariables false
set_option linter.unusedSimpArgs false
namespace Go.G880.Nw
open Go Go.RX Go.G880 Go.Newton
def has (X : Iv) (q : Rat) : Prop := (X.lo : Rat) ≤ q * 4294967296 ∧ q * 4294967296 ≤ (X.hi : Rat)
theorem make_of {a b : Int} (h : qaF (qb4 a b) = true) : qb4 a b = ⟨a, b⟩ := by
 simp only [qb4] at h ⊢
 cases hk : qaF ⟨a, b⟩
 ·rw [hk] at h
  simp only [Bool.not_false, cond_true] at h
  rw [qb5] at h
  cases h
 ·simp
theorem AddI_has {A B : Iv} {a b : Rat} (ha : has A a) (hb : has B b) (h : qaF (qdZ A B) = true) : has (qdZ A B) (a + b) := by
 simp only [qdZ] at h ⊢
 cases kA : qaF A
 ·rw [kA] at h; simp only [Bool.not_false, cond_true, qb5] at h; cases h
 cases kB : qaF B
 ·rw [kA, kB] at h; simp only [Bool.not_false, Bool.not_true, cond_false, cond_true, qb5] at h; cases h
 rw [kA, kB] at h
 simp only [Bool.not_true, cond_false] at h ⊢
 rw [make_of h]
 have iA := (qcM _).1 kA
 have iB := (qcM _).1 kB
 simp only [has] at *
 rw [qc2 (by omega) (by omega), qc2 (by omega) (by omega), Rat.intCast_add, Rat.intCast_add]
 grind
theorem SubI_has {A B : Iv} {a b : Rat} (ha : has A a) (hb : has B b) (h : qaF (qcZ A B) = true) : has (qcZ A B) (a - b) := by
 simp only [qcZ] at h ⊢
 cases kA : qaF A
 ·rw [kA] at h; simp only [Bool.not_false, cond_true, qb5] at h; cases h
 cases kB : qaF B
 ·rw [kA, kB] at h; simp only [Bool.not_false, Bool.not_true, cond_false, cond_true, qb5] at h; cases h
 rw [kA, kB] at h
 simp only [Bool.not_true, cond_false] at h ⊢
 rw [make_of h]
 have iA := (qcM _).1 kA
 have iB := (qcM _).1 kB
 simp only [has] at *
 rw [qc2 (by omega) (by omega), qc2 (by omega) (by omega), Rat.intCast_sub, Rat.intCast_sub]
 grind
theorem end_val {n : Int} {ok : Bool} (h : (qdE n ok).2 = true) : ok = true ∧ (qdE n ok).1 = n := by
 simp only [qdE] at h ⊢
 cases ok
 ·simp at h
 cases hk : qa2 n
 ·rw [hk] at h; simp at h
 ·simp
theorem qfK {a b : Int} (h : (qa4 a b).2 = true) : (qa4 a b).1 * 4294967296 ≤ a * b := by
 simp only [qa4] at h ⊢
 cases ka : qa2 a
 ·rw [ka] at h; simp at h
 cases kb : qa2 b
 ·rw [ka, kb] at h; simp at h
 rw [ka, kb] at h
 simp only [Bool.not_true, cond_false] at h ⊢
 obtain ⟨h1, h2⟩ := end_val h
 rw [h2]
 have pr := qgT (qeG ka) (qeG kb)
 have hr : qbT 32 0 126 = true := by decide
 simp only [qeS, hr, Bool.not_true, cond_false, qgV (qeG ka) (qeG kb), (Shift32 pr.1 pr.2).2] at h1 ⊢
 have hq := quot_range (z := a * b) (d := 4294967296) pr (by omega)
 rw [qiW hq.1 hq.2] at h1 ⊢
 split at h1
 ·rw [if_pos (by assumption)]
  simp only
  omega
 ·cases h1
theorem qhQ {a b : Int} (h : (qbU a b).2 = true) : a * b ≤ (qbU a b).1 * 4294967296 := by
 simp only [qbU] at h ⊢
 cases ka : qa2 a
 ·rw [ka] at h; simp at h
 rw [ka] at h
 simp only [Bool.not_true, cond_false] at h ⊢
 rw [(qfJ ka).1] at h ⊢
 cases kd : (qa4 (-a) b).2
 ·rw [kd] at h; simp at h
 simp only [Bool.not_true, cond_false]
 have hv := qfK kd
 have ho := qh0 kd
 rw [(qfJ ho).1, Int.neg_mul]
 rw [Int.neg_mul] at hv
 omega
theorem DivDown_pos {a b : Int} (hb : 0 < b) (h : (qbB a b).2 = true) : (qbB a b).1 * b ≤ a * 4294967296 := by
 simp only [qbB] at h ⊢
 cases ka : qa2 a
 ·rw [ka] at h; simp at h
 cases kb : qa2 b
 ·rw [ka, kb] at h; simp at h
 have hz : (b == 0) = false := by simp; omega
 have hn : decide (b < 0) = false := decide_eq_false (by omega)
 rw [ka, kb, hz, hn] at h
 simp only [Bool.not_true, cond_false, hz, hn] at h ⊢
 obtain ⟨h1, h2⟩ := end_val h
 rw [h2]
 have fb := qeG kb
 simp only [In64] at fb
 rw [qf7 (qeG ka) qiM hb (by omega)] at h1 ⊢
 split at h1
 ·rw [if_pos (by assumption)]
  exact Int.ediv_mul_le _ (by omega)
 ·cases h1
theorem DivDown_neg {a b : Int} (hb : b < 0) (h : (qbB a b).2 = true) : a * 4294967296 ≤ (qbB a b).1 * b := by
 simp only [qbB] at h ⊢
 cases ka : qa2 a
 ·rw [ka] at h; simp at h
 cases kb : qa2 b
 ·rw [ka, kb] at h; simp at h
 have hz : (b == 0) = false := by simp; omega
 have hn : decide (b < 0) = true := decide_eq_true hb
 rw [ka, kb, hz, hn] at h
 simp only [Bool.not_true, cond_false, cond_true, hz, hn, (qfJ ka).1, (qfJ kb).1] at h ⊢
 obtain ⟨h1, h2⟩ := end_val h
 rw [h2]
 have fb := (qeF b).1 kb
 have hp : 0 < -b := by omega
 have hq : -b ≤ 9223372036854775807 := by omega
 rw [qf7 (qeG (qfJ ka).2) qiM hp hq] at h1 ⊢
 split at h1
 ·rw [if_pos (by assumption)]
  have := Int.ediv_mul_le (-a * 4294967296) (b := -b) (by omega)
  simp only
  rw [Int.mul_neg, Int.neg_mul] at this
  rw [Int.neg_mul]
  omega
 ·cases h1
theorem qh1 {a b : Int} (h : (qb9 a b).2 = true) : qa2 a = true ∧ (qbB (-a) b).2 = true ∧ (qb9 a b).1 = -(qbB (-a) b).1 := by
 simp only [qb9] at h ⊢
 cases ka : qa2 a
 ·rw [ka] at h; simp at h
 rw [ka] at h
 simp only [Bool.not_true, cond_false] at h ⊢
 rw [(qfJ ka).1] at h ⊢
 exact ⟨trivial, h, (qfJ (DivDown_ok h)).1⟩
end Go.G880.Nw
/- The intervals' products and quotients enclose. -/
set_option linter.unusedVariables false
set_option linter.unusedSimpArgs false
namespace Go.G880.Nw
open Go Go.RX Go.G880 Go.Newton
theorem min_le (a b : Int) : qa5 a b ≤ a ∧ qa5 a b ≤ b := by
 simp only [qa5, Bool.cond_eq_ite, decide_eq_true_eq]
 split <;> omega
theorem le_max (a b : Int) : a ≤ qbC a b ∧ b ≤ qbC a b := by
 simp only [qbC, Bool.cond_eq_ite, decide_eq_true_eq]
 split <;> omega
theorem four (d1 d2 d3 d4 u1 u2 u3 u4 : Int) :
  let lo := qa5 (qa5 (qa5 (qa5 1152921504606846976 d1) d2) d3) d4
  let hi := qbC (qbC (qbC (qbC (-1152921504606846976) u1) u2) u3) u4
  (lo ≤ d1 ∧ lo ≤ d2 ∧ lo ≤ d3 ∧ lo ≤ d4) ∧ (u1 ≤ hi ∧ u2 ≤ hi ∧ u3 ≤ hi ∧ u4 ≤ hi) := by
 intro lo hi
 have a1 := min_le 1152921504606846976 d1
 have a2 := min_le (qa5 1152921504606846976 d1) d2
 have a3 := min_le (qa5 (qa5 1152921504606846976 d1) d2) d3
 have a4 := min_le (qa5 (qa5 (qa5 1152921504606846976 d1) d2) d3) d4
 have b1 := le_max (-1152921504606846976) u1
 have b2 := le_max (qbC (-1152921504606846976) u1) u2
 have b3 := le_max (qbC (qbC (-1152921504606846976) u1) u2) u3
 have b4 := le_max (qbC (qbC (qbC (-1152921504606846976) u1) u2) u3) u4
 show (qa5 (qa5 (qa5 (qa5 1152921504606846976 d1) d2) d3) d4 ≤ d1 ∧ _) ∧ _
 omega
theorem bil_lo {x1 x2 y1 y2 a b L : Rat} (h1 : x1 ≤ a) (h2 : a ≤ x2) (h3 : y1 ≤ b) (h4 : b ≤ y2) (p1 : L ≤ x1 * y1) (p2 : L ≤ x1 * y2) (p3 : L ≤ x2 * y1) (p4 : L ≤ x2 * y2) : L ≤ a * b := by
 have q : ∀ x : Rat, L ≤ x * y1 → L ≤ x * y2 → L ≤ x * b := by
  intro x g1 g2
  by_cases hx : 0 ≤ x
  ·have := Rat.mul_nonneg hx (show 0 ≤ b - y1 by grind)
   grind
  ·have := Rat.mul_nonneg (show 0 ≤ -x by grind) (show 0 ≤ y2 - b by grind)
   grind
 have q1 := q x1 p1 p2
 have q2 := q x2 p3 p4
 by_cases hb : 0 ≤ b
 ·have := Rat.mul_nonneg (show 0 ≤ a - x1 by grind) hb
  grind
 ·have := Rat.mul_nonneg (show 0 ≤ x2 - a by grind) (show 0 ≤ -b by grind)
  grind
theorem bil_hi {x1 x2 y1 y2 a b L : Rat} (h1 : x1 ≤ a) (h2 : a ≤ x2) (h3 : y1 ≤ b) (h4 : b ≤ y2) (p1 : x1 * y1 ≤ L) (p2 : x1 * y2 ≤ L) (p3 : x2 * y1 ≤ L) (p4 : x2 * y2 ≤ L) : a * b ≤ L := by
 have := bil_lo (x1 := -x2) (x2 := -x1) (y1 := y1) (y2 := y2) (a := -a) (b := b) (L := -L) (by grind) (by grind) h3 h4 (by grind) (by grind) (by grind) (by grind)
 grind
theorem cst {a b : Int} (h : a ≤ b) : (a : Rat) ≤ (b : Rat) := by exact_mod_cast h
theorem castU : ((4294967296 : Int) : Rat) = 4294967296 := rfl
theorem qiP {n a b : Int} (h : n * 4294967296 ≤ a * b) : (n : Rat) * 4294967296 ≤ (a : Rat) * (b : Rat) := by
 have := cst h
 rw [Rat.intCast_mul, Rat.intCast_mul, castU] at this
 exact this
theorem up_cast {n a b : Int} (h : a * b ≤ n * 4294967296) : (a : Rat) * (b : Rat) ≤ (n : Rat) * 4294967296 := by
 have := cst h
 rw [Rat.intCast_mul, Rat.intCast_mul, castU] at this
 exact this
theorem qgU {x y : Rat} (h : x * 4294967296 ≤ y * 4294967296) : x ≤ y := qdL (s := 4294967296) (by grind) (by grind)
theorem qiH {x y : Rat} (h : x ≤ y) : x * 4294967296 ≤ y * 4294967296 := by
 have := Rat.mul_le_mul_of_nonneg_left h (show (0 : Rat) ≤ 4294967296 by grind)
 grind
theorem MulI_has {A B : Iv} {a b : Rat} (ha : has A a) (hb : has B b) (h : qaF (qdQ A B) = true) : has (qdQ A B) (a * b) := by
 simp only [qdQ] at h ⊢
 cases kA : qaF A
 ·rw [kA] at h; simp only [Bool.not_false, cond_true, qb5] at h; cases h
 cases kB : qaF B
 ·rw [kA, kB] at h; simp only [Bool.not_false, Bool.not_true, cond_false, cond_true, qb5] at h; cases h
 rw [kA, kB] at h
 simp only [Bool.not_true, cond_false] at h ⊢
 cases k1 : (qa4 A.lo B.lo).2
 ·rw [k1] at h; simp only [Bool.not_false, cond_true, qb5] at h; cases h
 cases k2 : (qbU A.lo B.lo).2
 ·rw [k1, k2] at h; simp only [Bool.not_false, Bool.not_true, cond_false, cond_true, qb5] at h; cases h
 cases k3 : (qa4 A.lo B.hi).2
 ·rw [k1, k2, k3] at h; simp only [Bool.not_false, Bool.not_true, cond_false, cond_true, qb5] at h; cases h
 cases k4 : (qbU A.lo B.hi).2
 ·rw [k1, k2, k3, k4] at h; simp only [Bool.not_false, Bool.not_true, cond_false, cond_true, qb5] at h; cases h
 cases k5 : (qa4 A.hi B.lo).2
 ·rw [k1, k2, k3, k4, k5] at h; simp only [Bool.not_false, Bool.not_true, cond_false, cond_true, qb5] at h; cases h
 cases k6 : (qbU A.hi B.lo).2
 ·rw [k1, k2, k3, k4, k5, k6] at h; simp only [Bool.not_false, Bool.not_true, cond_false, cond_true, qb5] at h; cases h
 cases k7 : (qa4 A.hi B.hi).2
 ·rw [k1, k2, k3, k4, k5, k6, k7] at h; simp only [Bool.not_false, Bool.not_true, cond_false, cond_true, qb5] at h; cases h
 cases k8 : (qbU A.hi B.hi).2
 ·rw [k1, k2, k3, k4, k5, k6, k7, k8] at h; simp only [Bool.not_false, Bool.not_true, cond_false, cond_true, qb5] at h; cases h
 rw [k1, k2, k3, k4, k5, k6, k7, k8] at h
 simp only [Bool.not_true, cond_false] at h ⊢
 rw [make_of h]
 obtain ⟨⟨m1, m2, m3, m4⟩, n1, n2, n3, n4⟩ := four (qa4 A.lo B.lo).1 (qa4 A.lo B.hi).1 (qa4 A.hi B.lo).1 (qa4 A.hi B.hi).1 (qbU A.lo B.lo).1 (qbU A.lo B.hi).1 (qbU A.hi B.lo).1 (qbU A.hi B.hi).1
 generalize qa5 (qa5 (qa5 (qa5 1152921504606846976 _) _) _) _ = lo at *
 generalize qbC (qbC (qbC (qbC (-1152921504606846976) _) _) _) _ = hi at *
 have d1 := qfK k1
 have d2 := qfK k3
 have d3 := qfK k5
 have d4 := qfK k7
 have u1 := qhQ k2
 have u2 := qhQ k4
 have u3 := qhQ k6
 have u4 := qhQ k8
 have e1 := qiP (n := lo) (a := A.lo) (b := B.lo) (by omega)
 have e2 := qiP (n := lo) (a := A.lo) (b := B.hi) (by omega)
 have e3 := qiP (n := lo) (a := A.hi) (b := B.lo) (by omega)
 have e4 := qiP (n := lo) (a := A.hi) (b := B.hi) (by omega)
 have f1 := up_cast (n := hi) (a := A.lo) (b := B.lo) (by omega)
 have f2 := up_cast (n := hi) (a := A.lo) (b := B.hi) (by omega)
 have f3 := up_cast (n := hi) (a := A.hi) (b := B.lo) (by omega)
 have f4 := up_cast (n := hi) (a := A.hi) (b := B.hi) (by omega)
 obtain ⟨a1, a2⟩ := ha
 obtain ⟨b1, b2⟩ := hb
 have g1 := bil_lo a1 a2 b1 b2 e1 e2 e3 e4
 have g2 := bil_hi a1 a2 b1 b2 f1 f2 f3 f4
 have ee : a * 4294967296 * (b * 4294967296) = a * b * 4294967296 * 4294967296 := by grind
 rw [ee] at g1 g2
 exact ⟨qgU g1, qgU g2⟩
theorem div_lo {x1 x2 y lo : Int} {a r : Rat} (hy : y ≠ 0) (h1 : (x1 : Rat) ≤ a * 4294967296) (h2 : a * 4294967296 ≤ (x2 : Rat)) (hr : (y : Rat) * r = a * 4294967296)
  (l1 : lo ≤ (qbB x1 y).1) (l2 : lo ≤ (qbB x2 y).1) (k1 : (qbB x1 y).2 = true) (k2 : (qbB x2 y).2 = true) : (lo : Rat) ≤ r * 4294967296 := by
 by_cases hp : 0 < y
 ·have v := DivDown_pos hp k1
  have v2 : lo * y ≤ x1 * 4294967296 := Int.le_trans (Int.mul_le_mul_of_nonneg_right l1 (by omega)) v
  have v3 := cst v2
  rw [Rat.intCast_mul, Rat.intCast_mul, castU] at v3
  have hyr : (0 : Rat) < (y : Rat) := by exact_mod_cast hp
  refine qdL hyr ?_
  have s := qiH h1
  grind
 ·have hn : y < 0 := by omega
  have v := DivDown_neg hn k2
  have v2 : x2 * 4294967296 ≤ lo * y := by
   have w := Int.mul_le_mul_of_nonneg_right l2 (show 0 ≤ -y by omega)
   rw [Int.mul_neg, Int.mul_neg] at w
   omega
  have v3 := cst v2
  rw [Rat.intCast_mul, Rat.intCast_mul, castU] at v3
  have hyr : (0 : Rat) < -(y : Rat) := by
   have : (y : Rat) < ((0 : Int) : Rat) := by exact_mod_cast hn
   have z : ((0 : Int) : Rat) = 0 := rfl
   rw [z] at this
   grind
  refine qdL hyr ?_
  have s := qiH h2
  grind
theorem cast_neg (x : Int) : ((-x : Int) : Rat) = -(x : Rat) := by simp
theorem DivI_has {A B : Iv} {a r : Rat} (ha : has A a) (h : qaF (qdR A B) = true) (y : Int) (hy : y = B.lo ∨ y = B.hi) (hr : (y : Rat) * r = a * 4294967296) : has (qdR A B) r := by
 simp only [qdR] at h ⊢
 cases kA : qaF A
 ·rw [kA] at h; simp only [Bool.not_false, cond_true, qb5] at h; cases h
 cases kB : qaF B
 ·rw [kA, kB] at h; simp only [Bool.not_false, Bool.not_true, cond_false, cond_true, qb5] at h; cases h
 cases kH : qcN B 0
 case true => rw [kA, kB, kH] at h; simp only [Bool.not_true, cond_false, cond_true, qb5] at h; cases h
 rw [kA, kB, kH] at h
 simp only [Bool.not_true, cond_false] at h ⊢
 cases k1 : (qbB A.lo B.lo).2
 ·rw [k1] at h; simp only [Bool.not_false, cond_true, qb5] at h; cases h
 cases k2 : (qb9 A.lo B.lo).2
 ·rw [k1, k2] at h; simp only [Bool.not_false, Bool.not_true, cond_false, cond_true, qb5] at h; cases h
 cases k3 : (qbB A.lo B.hi).2
 ·rw [k1, k2, k3] at h; simp only [Bool.not_false, Bool.not_true, cond_false, cond_true, qb5] at h; cases h
 cases k4 : (qb9 A.lo B.hi).2
 ·rw [k1, k2, k3, k4] at h; simp only [Bool.not_false, Bool.not_true, cond_false, cond_true, qb5] at h; cases h
 cases k5 : (qbB A.hi B.lo).2
 ·rw [k1, k2, k3, k4, k5] at h; simp only [Bool.not_false, Bool.not_true, cond_false, cond_true, qb5] at h; cases h
 cases k6 : (qb9 A.hi B.lo).2
 ·rw [k1, k2, k3, k4, k5, k6] at h; simp only [Bool.not_false, Bool.not_true, cond_false, cond_true, qb5] at h; cases h
 cases k7 : (qbB A.hi B.hi).2
 ·rw [k1, k2, k3, k4, k5, k6, k7] at h; simp only [Bool.not_false, Bool.not_true, cond_false, cond_true, qb5] at h; cases h
 cases k8 : (qb9 A.hi B.hi).2
 ·rw [k1, k2, k3, k4, k5, k6, k7, k8] at h; simp only [Bool.not_false, Bool.not_true, cond_false, cond_true, qb5] at h; cases h
 rw [k1, k2, k3, k4, k5, k6, k7, k8] at h
 simp only [Bool.not_true, cond_false] at h ⊢
 rw [make_of h]
 obtain ⟨⟨m1, m2, m3, m4⟩, n1, n2, n3, n4⟩ := four (qbB A.lo B.lo).1 (qbB A.lo B.hi).1 (qbB A.hi B.lo).1 (qbB A.hi B.hi).1 (qb9 A.lo B.lo).1 (qb9 A.lo B.hi).1 (qb9 A.hi B.lo).1 (qb9 A.hi B.hi).1
 generalize qa5 (qa5 (qa5 (qa5 1152921504606846976 _) _) _) _ = lo at *
 generalize qbC (qbC (qbC (qbC (-1152921504606846976) _) _) _) _ = hi at *
 obtain ⟨_, u2, e2⟩ := qh1 k2
 obtain ⟨_, u4, e4⟩ := qh1 k4
 obtain ⟨_, u6, e6⟩ := qh1 k6
 obtain ⟨_, u8, e8⟩ := qh1 k8
 rw [e2] at n1
 rw [e4] at n2
 rw [e6] at n3
 rw [e8] at n4
 have hz : B.lo ≠ 0 ∧ B.hi ≠ 0 := by
  have hb := (qcM _).1 kB
  have := mt (qdS 0 B.lo B.hi).2 (by rw [qcN] at kH; rw [kH]; simp)
  omega
 obtain ⟨a1, a2⟩ := ha
 have a1' : ((-A.hi : Int) : Rat) ≤ (-a) * 4294967296 := by rw [cast_neg]; grind
 have a2' : (-a) * 4294967296 ≤ ((-A.lo : Int) : Rat) := by rw [cast_neg]; grind
 have hr' : (y : Rat) * (-r) = (-a) * 4294967296 := by grind
 have fin : ((-hi : Int) : Rat) ≤ (-r) * 4294967296 → r * 4294967296 ≤ (hi : Rat) := by
  intro w
  rw [cast_neg] at w
  grind
 rcases hy with rfl | rfl
 ·exact ⟨div_lo hz.1 a1 a2 hr m1 m3 k1 k5, fin (div_lo hz.1 a1' a2' hr' (by omega) (by omega) u6 u2)⟩
 ·exact ⟨div_lo hz.2 a1 a2 hr m2 m4 k3 k7, fin (div_lo hz.2 a1' a2' hr' (by omega) (by omega) u8 u4)⟩
end Go.G880.Nw
/- Values of polynomials enclose, and so do those of their derivatives. -/
set_option linter.unusedVariables false
set_option linter.unusedSimpArgs false
namespace Go.G880.Nw
open Go Go.RX Go.G880 Go.Newton
def HasW (X : Iv) (q : Rat) : Prop := qaF X = true → has X q
theorem AddI_ok {A B : Iv} (h : qaF (qdZ A B) = true) : qaF A = true ∧ qaF B = true := by
 simp only [qdZ] at h
 cases kA : qaF A
 ·rw [kA] at h; simp only [Bool.not_false, cond_true, qb5] at h; cases h
 cases kB : qaF B
 ·rw [kA, kB] at h; simp only [Bool.not_false, Bool.not_true, cond_false, cond_true, qb5] at h; cases h
 exact ⟨rfl, rfl⟩
theorem SubI_ok2 {A B : Iv} (h : qaF (qcZ A B) = true) : qaF A = true ∧ qaF B = true := by
 simp only [qcZ] at h
 cases kA : qaF A
 ·rw [kA] at h; simp only [Bool.not_false, cond_true, qb5] at h; cases h
 cases kB : qaF B
 ·rw [kA, kB] at h; simp only [Bool.not_false, Bool.not_true, cond_false, cond_true, qb5] at h; cases h
 exact ⟨rfl, rfl⟩
theorem MulI_ok2 {A B : Iv} (h : qaF (qdQ A B) = true) : qaF A = true ∧ qaF B = true := by
 simp only [qdQ] at h
 cases kA : qaF A
 ·rw [kA] at h; simp only [Bool.not_false, cond_true, qb5] at h; cases h
 cases kB : qaF B
 ·rw [kA, kB] at h; simp only [Bool.not_false, Bool.not_true, cond_false, cond_true, qb5] at h; cases h
 exact ⟨rfl, rfl⟩
theorem DivI_ok2 {A B : Iv} (h : qaF (qdR A B) = true) : qaF A = true ∧ qaF B = true ∧ qcN B 0 = false := by
 simp only [qdR] at h
 cases kA : qaF A
 ·rw [kA] at h; simp only [Bool.not_false, cond_true, qb5] at h; cases h
 cases kB : qaF B
 ·rw [kA, kB] at h; simp only [Bool.not_false, Bool.not_true, cond_false, cond_true, qb5] at h; cases h
 cases kH : qcN B 0
 case true => rw [kA, kB, kH] at h; simp only [Bool.not_true, cond_false, cond_true, qb5] at h; cases h
 exact ⟨rfl, rfl, rfl⟩
theorem AddW {A B : Iv} {a b : Rat} (ha : HasW A a) (hb : HasW B b) : HasW (qdZ A B) (a + b) := fun h => AddI_has (ha (AddI_ok h).1) (hb (AddI_ok h).2) h
theorem MulW {A B : Iv} {a b : Rat} (ha : HasW A a) (hb : HasW B b) : HasW (qdQ A B) (a * b) := fun h => MulI_has (ha (MulI_ok2 h).1) (hb (MulI_ok2 h).2) h
def fx (n : Int) : Rat := (n : Rat) * (1 / 4294967296)
theorem qhM (n : Int) : fx n * 4294967296 = (n : Rat) := by
 have : (1 / 4294967296 : Rat) * 4294967296 = 1 := by decide +kernel
 rw [fx, Rat.mul_assoc, this, Rat.mul_one]
theorem has_pt {n : Int} : has ⟨n, n⟩ (fx n) := by
 simp only [has, qhM]
 exact ⟨Rat.le_refl, Rat.le_refl⟩
theorem has_lo {X : Iv} (h : qaF X = true) : has X (fx X.lo) := by
 simp only [has, qhM]
 exact ⟨Rat.le_refl, cst ((qcM _).1 h).2.1⟩
theorem qfS {a b : Int} (h : a ≤ b) : fx a ≤ fx b := qgU (by rw [qhM, qhM]; exact cst h)
theorem qh2 {a b : Int} (h : fx a ≤ fx b) : a ≤ b := by
 have := qiH h
 rw [qhM, qhM] at this
 exact_mod_cast this
theorem qiO {X : Iv} {q : Rat} (h : has X q) : fx X.lo ≤ q ∧ q ≤ fx X.hi :=
 ⟨qgU (by rw [qhM]; exact h.1), qgU (by rw [qhM]; exact h.2)⟩
theorem fx_has {X : Iv} {q : Rat} (h1 : fx X.lo ≤ q) (h2 : q ≤ fx X.hi) : has X q := by
 have a := qiH h1
 have b := qiH h2
 rw [qhM] at a b
 exact ⟨a, b⟩
theorem IntegerW (n : Int) : HasW (qa7 n) (n : Rat) := by
 intro h
 simp only [qa7] at h ⊢
 cases k : qbT n (-268435455) 268435455
 ·rw [k] at h; simp only [Bool.not_false, cond_true, qb5] at h; cases h
 rw [k] at h
 simp only [Bool.not_true, cond_false] at h ⊢
 rw [make_of h]
 have hb := (qdS _ _ _).1 k
 rw [qc2 (by omega) (by omega)]
 have e : ((n * 4294967296 : Int) : Rat) = (n : Rat) * 4294967296 := by rw [Rat.intCast_mul, castU]
 simp only [has, e]
 exact ⟨Rat.le_refl, Rat.le_refl⟩
def pol (c : Nat → Rat) (i : Nat) : Nat → List Rat
 | 0 => []
 | m + 1 => c i :: pol c (i + 1) m
theorem at_loop (l : List Value) (c : Nat → Rat) (x : Iv) (u : Rat) (hx : HasW x u) (hc : ∀ k, k < l.length → HasW (atIv l false (k : Int)) (c k)) : ∀ (d f m : Nat) (pl ph : Int), d < f → d ≤ l.length → d ≤ 2000000 →
  HasW ⟨pl, ph⟩ (evp (pol c d m) u) → HasW ⟨(qd5 (fun v : Int × Int × Int => qaP.rnd3 l x.lo x.hi v.1 v.2.1 v.2.2) f ((d : Int) - 1, pl, ph)).2.1, (qd5 (fun v : Int × Int × Int => qaP.rnd3 l x.lo x.hi v.1 v.2.1 v.2.2) f ((d : Int) - 1, pl, ph)).2.2⟩ (evp (pol c 0 (d + m)) u) := by
 intro d
 induction d with
 | zero =>
  intro f m pl ph hf _ _ hp
  obtain ⟨f, rfl⟩ : ∃ m, f = m + 1 := ⟨f - 1, by omega⟩
  rw [qd5]
  have h1 : decide (((0 : Nat) : Int) - 1 ≥ 0) = false := decide_eq_false (by omega)
  simp only [qaP.rnd3, h1, cond_false]
  rw [Nat.zero_add]
  exact hp
 | succ d ih =>
  intro f m pl ph hf hd hd2 hp
  obtain ⟨f, rfl⟩ : ∃ m, f = m + 1 := ⟨f - 1, by omega⟩
  rw [qd5]
  have h1 : decide (((d + 1 : Nat) : Int) - 1 ≥ 0) = true := decide_eq_true (by omega)
  have h2 : ((d + 1 : Nat) : Int) - 1 = (d : Int) := by omega
  have h3 : w64 ((d : Int) - 1) = (d : Int) - 1 := qc2 (by omega) (by omega)
  rw [h2] at h1
  simp only [qaP.rnd3, h2, h1, cond_true, h3]
  have e : d + 1 + m = d + (m + 1) := by omega
  rw [e]
  refine ih f (m + 1) _ _ (by omega) (by omega) (by omega) ?_
  have hx' : HasW ⟨x.lo, x.hi⟩ u := hx
  have := AddW (MulW hp hx') (hc d (by omega))
  have e2 : evp (pol c d (m + 1)) u = evp (pol c (d + 1) m) u * u + c d := by
   simp only [pol, evp]
   rw [Rat.add_comm, Rat.mul_comm]
  rw [e2]
  exact this
theorem atW (l : List Value) (c : Nat → Rat) (x : Iv) (u : Rat) (hx : HasW x u) (hl : 1 ≤ l.length ∧ l.length ≤ 1048576) (hc : ∀ k, k < l.length → HasW (atIv l false (k : Int)) (c k)) : HasW (qaP l x) (evp (pol c 0 l.length) u) := by
 have h1 : w64 ((l.length : Int) - 1) = ((l.length - 1 : Nat) : Int) := by rw [qc2 (by omega) (by omega)]; omega
 have h2 : w64 ((l.length : Int) - 2) = ((l.length - 1 : Nat) : Int) - 1 := by rw [qc2 (by omega) (by omega)]; omega
 simp only [qaP, qaP.fin3, h1, h2]
 have := at_loop l c x u hx hc (l.length - 1) 1048577 1 (atIv l false ((l.length - 1 : Nat) : Int)).lo (atIv l false ((l.length - 1 : Nat) : Int)).hi (by omega) (by omega) (by omega) (by
  have := hc (l.length - 1) (by omega)
  have e : evp (pol c (l.length - 1) 1) u = c (l.length - 1) := by
   simp only [pol, evp]
   rw [Rat.mul_zero, Rat.add_zero]
  rw [e]
  exact this)
 rw [show l.length - 1 + 1 = l.length by omega] at this
 exact this
theorem derD_rev (l : List Value) : ∀ (d k : Nat) (out : List Value), (derD l k d out).reverse = out.reverse ++ (List.range d).map fun j => oneD l (k + j) := by
 intro d
 induction d with
 | zero => intro k out; simp [derD]
 | succ d ih =>
  intro k out
  have e : ((List.range d).map fun j => oneD l (k + 1 + j)) = (List.range d).map ((fun j => oneD l (k + j)) ∘ Nat.succ) :=
   List.map_congr_left fun j _ => by
    rw [Function.comp_apply, show k + 1 + j = k + Nat.succ j by omega]
  rw [derD, ih, List.reverse_cons, List.append_assoc, List.range_succ_eq_map, List.map_cons, List.map_map, e, List.singleton_append, Nat.add_zero]
theorem rowIv_agg (t : Iv) : rowIv (.agg #[.int .i64 t.lo, .int .i64 t.hi]) = t := by cases t; rfl
theorem nth_der (l : List Value) (n k : Nat) (hk : k < n) : nthR ((List.range n).map fun j => oneD l (0 + j)) false k = oneD l k := by
 simp only [nthR, List.getD, List.getElem?_map, List.getElem?_range hk, Option.map_some, Option.getD_some, Nat.zero_add]
theorem der_vals {l : List Value} (hl : (l.length : Int) ≤ 1048576) (h : ((qaI l).2 == 0) = true) :
  (1 < l.length ∧ (List.reverse (qaI l).1).length = l.length - 1 ∧ ∀ k, k < l.length - 1 → atIv (List.reverse (qaI l).1) false (k : Int) = qdQ (qa7 ((k + 1 : Nat) : Int)) (atIv l false ((k + 1 : Nat) : Int))) ∨
  (l.length = 1 ∧ (List.reverse (qaI l).1).length = 1 ∧ atIv (List.reverse (qaI l).1) false ((0 : Nat) : Int) = qa7 0) := by
 cases hv : qbK l
 ·simp only [qaI, hv, Bool.not_false, cond_true] at h
  cases h
 have hn := qhL hl hv
 have hn' : 1 ≤ (l.length : Int) ∧ (l.length : Int) ≤ 1048576 := by omega
 simp only [qaI, hv, Bool.not_true, cond_false, sder_fin l hn'] at h ⊢
 by_cases h1 : l.length = 1
 ·right
  rw [h1, show derD l 0 (1 - 1) [] = [] from rfl]
  exact ⟨rfl, by kernel_rfl, by kernel_rfl⟩
 ·left
  have e2 : (((derD l 0 (l.length - 1) []).length : Int) == 0) = false := by rw [qeW]; simp only [beq_eq_false_iff_ne, ne_eq, List.length_nil]; omega
  have e3 : decide (((derD l 0 (l.length - 1) []).length : Int) > 17) = false := by rw [qeW]; exact decide_eq_false (by simp only [List.length_nil]; omega)
  simp only [e2, e3, cond_false] at h ⊢
  cases h5 : qbK (List.reverse (derD l 0 (l.length - 1) []))
  ·rw [h5] at h; cases h
  ·simp only [Bool.not_true, cond_false]
   refine ⟨by omega, by rw [List.length_reverse, qeW, List.length_nil]; omega, fun k hk => ?_⟩
   have ea : atIv l false ((k + 1 : Nat) : Int) = rowIv (nthR l false (k + 1)) := by rw [atIv, Int.toNat_natCast]
   rw [derD_rev, List.reverse_nil, List.nil_append, ea, atIv, Int.toNat_natCast, nth_der l _ k hk]
   exact rowIv_agg _
theorem pol_shift (c : Nat → Rat) : ∀ (m i : Nat), Dk (i + 1) (pol c (i + 1) m) = pol (fun k => ((k + 1 : Nat) : Rat) * c (k + 1)) i m := by
 intro m
 induction m with
 | zero => intro i; rfl
 | succ m ih => intro i; simp only [pol, Dk]; rw [ih (i + 1)]
theorem slopeW (l : List Value) (c : Nat → Rat) (x : Iv) (u : Rat) (hx : HasW x u) (hl : 1 ≤ l.length ∧ l.length ≤ 17) (hc : ∀ k, k < l.length → HasW (atIv l false (k : Int)) (c k)) (h : ((qaI l).2 == 0) = true) :
  HasW (qaP (List.reverse (qaI l).1) x) (dv (pol c 0 l.length) u) := by
 rcases der_vals (by omega) h with ⟨h1, h2, h3⟩ | ⟨h1, h2, h3⟩
 ·have := atW (List.reverse (qaI l).1) (fun k => ((k + 1 : Nat) : Rat) * c (k + 1)) x u hx (by omega) (fun k hk => by
   rw [h3 k (by omega)]
   have e := IntegerW ((k + 1 : Nat) : Int)
   have e2 : ((((k + 1 : Nat) : Int)) : Rat) = ((k + 1 : Nat) : Rat) := Rat.intCast_natCast _
   rw [e2] at e
   exact MulW e (hc (k + 1) (by omega)))
  rw [h2, ← pol_shift, ev_D (c 0)] at this
  have e : pol c 0 l.length = c 0 :: pol c (0 + 1) (l.length - 1) := by
   obtain ⟨n, hn⟩ : ∃ n, l.length = n + 1 := ⟨l.length - 1, by omega⟩
   rw [hn]
   rfl
  rw [e]
  exact this
 ·have := atW (List.reverse (qaI l).1) (fun k => 0) x u hx (by omega) (fun k hk => by
   have : k = 0 := by omega
   subst this
   rw [h3]
   exact IntegerW 0)
  have e : evp (pol (fun _ => (0 : Rat)) 0 (List.reverse (qaI l).1).length) u = dv (pol c 0 l.length) u := by
   rw [h2, h1]
   simp only [pol, evp, dv]
  rw [e] at this
  exact this
end Go.G880.Nw
/- Newton's method: the reference and the program come to one interval, for a root lies in it all the time. -/
set_option linter.unusedVariables false
set_option linter.unusedSimpArgs false
namespace Go.G880.Nw
open Go Go.RX Go.G880 Go.Newton
def coef (l : List Value) (k : Nat) : Rat := fx (atIv l false (k : Int)).lo
theorem coefW (l : List Value) : ∀ k, k < l.length → HasW (atIv l false (k : Int)) (coef l k) := fun k _ h => has_lo h
theorem sign_pos {X : Iv} (h : qb1 X = 1) : qaF X = true ∧ 0 < X.lo := by
 simp only [qb1] at h
 cases k : qaF X
 ·rw [k] at h; simp at h
 rw [k] at h
 simp only [Bool.not_true, cond_false] at h
 by_cases h1 : X.lo > 0
 ·exact ⟨rfl, h1⟩
 ·rw [decide_eq_false h1] at h
  by_cases h2 : X.hi < 0
  ·rw [decide_eq_true h2] at h; simp at h
  ·rw [decide_eq_false h2] at h; simp at h
theorem sign_neg {X : Iv} (h : qb1 X = -1) : qaF X = true ∧ X.hi < 0 := by
 simp only [qb1] at h
 cases k : qaF X
 ·rw [k] at h; simp at h
 rw [k] at h
 simp only [Bool.not_true, cond_false] at h
 by_cases h1 : X.lo > 0
 ·rw [decide_eq_true h1] at h; simp at h
 ·rw [decide_eq_false h1] at h
  by_cases h2 : X.hi < 0
  ·exact ⟨rfl, h2⟩
  ·rw [decide_eq_false h2] at h; simp at h
theorem fx0 : fx 0 = 0 := by decide +kernel
theorem atFix {n : Int} (h : -1152921504606846976 < n ∧ n < 1152921504606846976) : qbS n = ⟨n, n⟩ := by
 simp only [qbS]
 exact qg6 (by omega)
theorem qhR {l : List Value} (hl : 1 ≤ l.length ∧ l.length ≤ 17) {n : Int} (hn : -1152921504606846976 < n ∧ n < 1152921504606846976) (h : qaX l n = 1) : 0 ≤ evp (pol (coef l) 0 l.length) (fx n) := by
 simp only [qaX, atFix hn] at h
 obtain ⟨h1, h2⟩ := sign_pos h
 have := qiO (atW l (coef l) ⟨n, n⟩ (fx n) (fun _ => has_pt) (by omega) (coefW l) h1)
 have h3 := qfS (show 0 ≤ (qaP l ⟨n, n⟩).lo by omega)
 rw [fx0] at h3
 exact Rat.le_trans h3 this.1
theorem qhS {l : List Value} (hl : 1 ≤ l.length ∧ l.length ≤ 17) {n : Int} (hn : -1152921504606846976 < n ∧ n < 1152921504606846976) (h : qaX l n = -1) : evp (pol (coef l) 0 l.length) (fx n) ≤ 0 := by
 simp only [qaX, atFix hn] at h
 obtain ⟨h1, h2⟩ := sign_neg h
 have := qiO (atW l (coef l) ⟨n, n⟩ (fx n) (fun _ => has_pt) (by omega) (coefW l) h1)
 have h3 := qfS (show (qaP l ⟨n, n⟩).hi ≤ 0 by omega)
 rw [fx0] at h3
 exact Rat.le_trans this.2 h3
theorem change_chg {l : List Value} (hl : 1 ≤ l.length ∧ l.length ≤ 17) {x : Iv} (hx : qaF x = true) (h : (qdJ l x == 1) = true) : Chg (pol (coef l) 0 l.length) (fx x.lo) (fx x.hi) := by
 have hi := (qcM _).1 hx
 simp only [qdJ] at h
 have a := qgA (qaP l (qbS x.lo))
 have b := qgA (qaP l (qbS x.hi))
 change qaX l x.lo = 0 ∨ qaX l x.lo = 1 ∨ qaX l x.lo = -1 at a
 change qaX l x.hi = 0 ∨ qaX l x.hi = 1 ∨ qaX l x.hi = -1 at b
 rcases a with a | a | a
 ·rw [a] at h; simp at h
 ·rcases b with b | b | b
  ·rw [a, b] at h; simp at h
  ·rw [a, b] at h; simp at h
  ·exact Or.inr ⟨qhS hl (by omega) b, qhR hl (by omega) a⟩
 ·rcases b with b | b | b
  ·rw [a, b] at h; simp at h
  ·exact Or.inl ⟨qhS hl (by omega) a, qhR hl (by omega) b⟩
  ·rw [a, b] at h; simp at h
def newN (l s : List Value) (lo hi : Int) : Iv := qcZ (qbS ((lo + hi) / 2)) (qdR (qaP l (qbS ((lo + hi) / 2))) (qaP s ⟨lo, hi⟩))
theorem quotient {y : Int} {a : Rat} (hy : y ≠ 0) : ∃ r : Rat, (y : Rat) * r = a * 4294967296 := by
 have hne : (y : Rat) ≠ 0 := by
  intro h
  have : ((y : Int) : Rat) = ((0 : Int) : Rat) := h
  exact hy (by exact_mod_cast this)
 refine ⟨(y : Rat)⁻¹ * (a * 4294967296), ?_⟩
 rw [← Rat.mul_assoc, Rat.mul_inv_cancel _ hne, Rat.one_mul]
theorem meet_ok {l : List Value} (hl : 1 ≤ l.length ∧ l.length ≤ 17) (hd : ((qaI l).2 == 0) = true) {lo hi : Int} (hx : qaF ⟨lo, hi⟩ = true) (hc : Chg (pol (coef l) 0 l.length) (fx lo) (fx hi)) :
  (qcQ ⟨lo, hi⟩ (newN l (List.reverse (qaI l).1) lo hi)).2 = true ∧
  qaF (qcQ ⟨lo, hi⟩ (newN l (List.reverse (qaI l).1) lo hi)).1 = true ∧
  Chg (pol (coef l) 0 l.length) (fx (qcQ ⟨lo, hi⟩ (newN l (List.reverse (qaI l).1) lo hi)).1.lo) (fx (qcQ ⟨lo, hi⟩ (newN l (List.reverse (qaI l).1) lo hi)).1.hi) := by
 have hh := (qcM _).1 hx
 simp only at hh
 generalize hN : newN l (List.reverse (qaI l).1) lo hi = N
 cases kN : qaF N
 ·simp only [qcQ, hx, kN, Bool.not_true, Bool.not_false, cond_true, cond_false]
  exact ⟨trivial, trivial, hc⟩
 have kN' := kN
 rw [← hN] at kN'
 simp only [newN] at kN' hN
 have hm1 : lo ≤ (lo + hi) / 2 := by omega
 have hm2 : (lo + hi) / 2 ≤ hi := by omega
 generalize hmm : (lo + hi) / 2 = m at *
 rw [atFix (by omega)] at kN' hN
 obtain ⟨q1, q2⟩ := SubI_ok2 kN'
 obtain ⟨o1, o2, o3⟩ := DivI_ok2 q2
 generalize hS : qaP (List.reverse (qaI l).1) ⟨lo, hi⟩ = S at *
 have hSi := (qcM _).1 o2
 have hz : ¬ (S.lo ≤ 0 ∧ 0 ≤ S.hi) := by
  have := mt (qdS 0 S.lo S.hi).2 (by rw [qcN] at o3; rw [o3]; simp)
  exact this
 have slope : ∀ u, fx lo ≤ u → u ≤ fx hi → fx S.lo ≤ dv (pol (coef l) 0 l.length) u ∧ dv (pol (coef l) 0 l.length) u ≤ fx S.hi := by
  intro u u1 u2
  have := slopeW l (coef l) ⟨lo, hi⟩ u (fun _ => fx_has u1 u2) hl (coefW l) hd
  rw [hS] at this
  exact qiO (this o2)
 have hP := atW l (coef l) ⟨m, m⟩ (fx m) (fun _ => has_pt) (by omega) (coefW l) o1
 obtain ⟨r1, e1⟩ := quotient (y := S.lo) (a := evp (pol (coef l) 0 l.length) (fx m)) (by omega)
 obtain ⟨r2, e2⟩ := quotient (y := S.hi) (a := evp (pol (coef l) 0 l.length) (fx m)) (by omega)
 have d1 := DivI_has hP q2 S.lo (Or.inl rfl) e1
 have d2 := DivI_has hP q2 S.hi (Or.inr rfl) e2
 have n1 := qiO (SubI_has (has_pt (n := m)) d1 kN')
 have n2 := qiO (SubI_has (has_pt (n := m)) d2 kN')
 rw [hN] at n1 n2
 have f1 : fx S.lo * r1 = evp (pol (coef l) 0 l.length) (fx m) := by
  have a := qhM S.lo
  rw [← a] at e1
  grind
 have f2 : fx S.hi * r2 = evp (pol (coef l) 0 l.length) (fx m) := by
  have a := qhM S.hi
  rw [← a] at e2
  grind
 have hs : 0 < fx S.lo ∨ fx S.hi < 0 := by
  by_cases hp : 0 < S.lo
  ·left
   have : ¬ fx S.lo ≤ fx 0 := fun h => by have := qh2 h; omega
   rw [fx0] at this
   grind
  ·right
   have : ¬ fx 0 ≤ fx S.hi := fun h => by have := qh2 h; omega
   rw [fx0] at this
   grind
 obtain ⟨g1, g2, g3⟩ := newton_step (pol (coef l) 0 l.length) (fx lo) (fx hi) (fx m) (fx S.lo) (fx S.hi) r1 r2 (fx N.lo) (fx N.hi) (qfS hm1) (qfS hm2) hs (fun u a b => (slope u a b).1) (fun u a b => (slope u a b).2) hc f1 f2 n1.1 n2.1 n1.2 n2.2
 have i1 := qh2 g1
 have i2 := qh2 g2
 have hNi := (qcM _).1 kN
 have tmax : fx (qbC lo N.lo) = if fx lo ≤ fx N.lo then fx N.lo else fx lo := by
  simp only [qbC, Bool.cond_eq_ite, decide_eq_true_eq]
  by_cases hk : lo ≤ N.lo
  ·rw [if_pos (qfS hk)]
   by_cases hk2 : lo > N.lo
   ·omega
   ·rw [if_neg hk2]
  ·rw [if_neg (fun h => hk (qh2 h)), if_pos (by omega)]
 have tmin : fx (qa5 hi N.hi) = if fx N.hi ≤ fx hi then fx N.hi else fx hi := by
  simp only [qa5, Bool.cond_eq_ite, decide_eq_true_eq]
  by_cases hk : N.hi ≤ hi
  ·rw [if_pos (qfS hk)]
   by_cases hk2 : hi < N.hi
   ·omega
   ·rw [if_neg hk2]
  ·rw [if_neg (fun h => hk (qh2 h)), if_pos (by omega)]
 have vmax : qbC lo N.lo = lo ∨ qbC lo N.lo = N.lo := by
  simp only [qbC, Bool.cond_eq_ite]
  split <;> simp
 have vmin : qa5 hi N.hi = hi ∨ qa5 hi N.hi = N.hi := by
  simp only [qa5, Bool.cond_eq_ite]
  split <;> simp
 have lmax := le_max lo N.lo
 have lmin := min_le hi N.hi
 have hgt : decide (qbC lo N.lo > qa5 hi N.hi) = false := decide_eq_false (by omega)
 simp only [qcQ, hx, kN, Bool.not_true, cond_false, hgt]
 refine ⟨trivial, (qcM _).2 (by simp only; omega), ?_⟩
 rw [tmax, tmin]
 exact g3
theorem newton_loop (l : List Value) (hl : (l.length : Int) ≤ 1048576) (hv : qbK l = true) (hd : ((qaI l).2 == 0) = true) (n : Int) (hn : n ≤ 60) : ∀ (f : Nat) (k lo hi : Int), 0 ≤ k → k ≤ n → qaF ⟨lo, hi⟩ = true → Chg (pol (coef l) 0 l.length) (fx lo) (fx hi) →
  (qd5 (fun v : Int × Int × Int => qaG.rnd6 l (qaI l).1 n v.1 v.2.1 v.2.2) f (n - k, lo, hi)).2 = (qd5 (fun v : Int × Int × Int => qcC.rnd5 l (qaI l).1 v.1 v.2.1 v.2.2) f (k, lo, hi)).2 := by
 intro f
 induction f with
 | zero => intro k lo hi _ _ _ _; rfl
 | succ f ih =>
  intro k lo hi h0 hkn hok hc
  have hh := (qcM _).1 hok
  simp only at hh
  have hlen := qhL hl hv
  obtain ⟨_, ds1, ds2⟩ := der_ok hl hd
  have hw : w64 (lo + hi) = lo + hi := qc2 (by omega) (by omega)
  have hm : Int.fdiv (lo + hi) 2 = (lo + hi) / 2 := qe6 _ (by omega)
  have ha : qbW ((lo + hi) / 2) = qbS ((lo + hi) / 2) := by rw [atFix (by omega)]; rfl
  have hat : qaF (qbS ((lo + hi) / 2)) = true := by rw [atFix (by omega)]; exact (qcM _).2 (by simp only; omega)
  have p1 : qaH l (qbS ((lo + hi) / 2)) = qaP l (qbS ((lo + hi) / 2)) := qf4 hl hv hat
  have p2 : qaH (List.reverse (qaI l).1) ⟨lo, hi⟩ = qaP (List.reverse (qaI l).1) ⟨lo, hi⟩ := qf4 ds2 ds1 hok
  rw [qd5, qd5]
  dsimp only
  by_cases hk : k = 0
  ·subst hk
   have e1 : decide (n - 0 < n) = false := decide_eq_false (by omega)
   have e2 : decide ((0 : Int) > 0) = false := rfl
   have hI : qaG.rnd6 l (qaI l).1 n (n - 0) lo hi = Sum.inr (n - 0, lo, hi) := by simp only [qaG.rnd6, e1, cond_false]
   have hS : qcC.rnd5 l (qaI l).1 0 lo hi = Sum.inr (0, lo, hi) := by simp only [qcC.rnd5, e2, cond_false]
   rw [hI, hS]
  have e1 : decide (n - k < n) = true := decide_eq_true (by omega)
  have e2 : decide (k > 0) = true := decide_eq_true (by omega)
  have e5 : w64 (n - k + 1) = n - (k - 1) := by rw [qc2 (by omega) (by omega)]; omega
  have e6 : w64 (k - 1) = k - 1 := qc2 (by omega) (by omega)
  obtain ⟨m1, m2, m3⟩ := meet_ok (l := l) (by omega) hd hok hc
  simp only [newN] at m1 m2 m3
  have hI : qaG.rnd6 l (qaI l).1 n (n - k) lo hi = bif ((qcQ ⟨lo, hi⟩ (qcZ (qbS ((lo + hi) / 2)) (qdR (qaP l (qbS ((lo + hi) / 2))) (qaP (List.reverse (qaI l).1) ⟨lo, hi⟩)))).1.lo == lo && (qcQ ⟨lo, hi⟩ (qcZ (qbS ((lo + hi) / 2)) (qdR (qaP l (qbS ((lo + hi) / 2))) (qaP (List.reverse (qaI l).1) ⟨lo, hi⟩)))).1.hi == hi) then Sum.inr (n - k, lo, hi) else Sum.inl (n - (k - 1), (qcQ ⟨lo, hi⟩ (qcZ (qbS ((lo + hi) / 2)) (qdR (qaP l (qbS ((lo + hi) / 2))) (qaP (List.reverse (qaI l).1) ⟨lo, hi⟩)))).1.lo, (qcQ ⟨lo, hi⟩ (qcZ (qbS ((lo + hi) / 2)) (qdR (qaP l (qbS ((lo + hi) / 2))) (qaP (List.reverse (qaI l).1) ⟨lo, hi⟩)))).1.hi) := by
   simp only [qaG.rnd6, qaR, qd1, hok, Bool.not_true, cond_false, hw, hm, ha, p1, p2, MeetI_eq, SubI_eq, DivI_eq, e1, cond_true, e5, m1]
  have hS : qcC.rnd5 l (qaI l).1 k lo hi = bif ((qcQ ⟨lo, hi⟩ (qcZ (qbS ((lo + hi) / 2)) (qdR (qaP l (qbS ((lo + hi) / 2))) (qaP (List.reverse (qaI l).1) ⟨lo, hi⟩)))).1.lo == lo && (qcQ ⟨lo, hi⟩ (qcZ (qbS ((lo + hi) / 2)) (qdR (qaP l (qbS ((lo + hi) / 2))) (qaP (List.reverse (qaI l).1) ⟨lo, hi⟩)))).1.hi == hi) then Sum.inr (k, lo, hi) else Sum.inl (k - 1, (qcQ ⟨lo, hi⟩ (qcZ (qbS ((lo + hi) / 2)) (qdR (qaP l (qbS ((lo + hi) / 2))) (qaP (List.reverse (qaI l).1) ⟨lo, hi⟩)))).1.lo, (qcQ ⟨lo, hi⟩ (qcZ (qbS ((lo + hi) / 2)) (qdR (qaP l (qbS ((lo + hi) / 2))) (qaP (List.reverse (qaI l).1) ⟨lo, hi⟩)))).1.hi) := by
   simp only [qcC.rnd5, hw, hm, e2, cond_true, e6]
  rw [hI, hS]
  generalize (qcQ ⟨lo, hi⟩ (qcZ (qbS ((lo + hi) / 2)) (qdR (qaP l (qbS ((lo + hi) / 2))) (qaP (List.reverse (qaI l).1) ⟨lo, hi⟩)))).1 = X at m2 m3 ⊢
  cases c1 : (X.lo == lo && X.hi == hi)
  ·simp only [cond_false]
   exact ih (k - 1) X.lo X.hi (by omega) (by omega) m2 m3
  ·rfl
theorem Newton_eq (l : List Value) (hl : (l.length : Int) ≤ 1048576) (x : Iv) (n : Int) : qaG l x n = qcC l x n := by
 simp only [qaG, qcC, Ask_eq l hl, Der_eq l hl]
 cases h : ((qd7 l x n) != 0)
 case true => rfl
 obtain ⟨h1, h2, h3, h4, h5⟩ := ask_ok hl h
 have hd := ask_der hl h
 have hlen := qhL hl h1
 have hc : Chg (pol (coef l) 0 l.length) (fx x.lo) (fx x.hi) := by
  refine change_chg (by omega) h2 ?_
  simp only [qb3, hd, h2, cond_true, qfE] at h5
  cases k : (qdJ l x == 1)
  ·rw [k] at h5; cases h5
  ·rfl
 have := newton_loop l hl h1 hd n h4 62 n x.lo x.hi h3 (by omega) h2 hc
 rw [Int.sub_self] at this
 simp only [cond_false, qaG.fin6, qcC.fin5, this]
end Go.G880.Nw
