/- Polynomials over the rationals: the mean value bounds, by subdivision. -/
namespace Go.Newton
def evp : List Rat → Rat → Rat
  | [], _ => 0
  | c :: q, u => c + u * evp q u
def dv : List Rat → Rat → Rat
  | [], _ => 0
  | _ :: q, u => evp q u + u * dv q u
def Dk : Nat → List Rat → List Rat
  | _, [] => []
  | k, c :: q => (k : Rat) * c :: Dk (k + 1) q

theorem ev_Dk (q : List Rat) (u : Rat) : ∀ k : Nat, evp (Dk k q) u = (k : Rat) * evp q u + u * dv q u := by
  induction q with
  | nil => intro k; simp only [Dk, evp, dv]; grind
  | cons c q ih =>
    intro k
    simp only [Dk, evp, dv]
    rw [ih (k + 1)]
    have : ((k + 1 : Nat) : Rat) = (k : Rat) + 1 := by simp
    rw [this]
    grind
theorem ev_D (c : Rat) (q : List Rat) (u : Rat) : evp (Dk 1 q) u = dv (c :: q) u := by
  rw [ev_Dk]; simp only [dv]; have : ((1 : Nat) : Rat) = 1 := by simp
  rw [this]; grind

/-- Bounded on a bounded range. -/
theorem mul_le (a b A B : Rat) (h1 : -A ≤ a) (h2 : a ≤ A) (h3 : -B ≤ b) (h4 : b ≤ B) : a * b ≤ A * B ∧ -(A * B) ≤ a * b := by
  have p1 : 0 ≤ (A - a) * (B + b) := Rat.mul_nonneg (by grind) (by grind)
  have p2 : 0 ≤ (A + a) * (B - b) := Rat.mul_nonneg (by grind) (by grind)
  have p3 : 0 ≤ (A - a) * (B - b) := Rat.mul_nonneg (by grind) (by grind)
  have p4 : 0 ≤ (A + a) * (B + b) := Rat.mul_nonneg (by grind) (by grind)
  constructor <;> grind
theorem ev_bound (M : Rat) (hM : 0 ≤ M) (q : List Rat) : ∃ B : Rat, 0 ≤ B ∧ ∀ u, -M ≤ u → u ≤ M → -B ≤ evp q u ∧ evp q u ≤ B := by
  induction q with
  | nil => exact ⟨0, by grind, fun u _ _ => by simp only [evp]; grind⟩
  | cons c q ih =>
    obtain ⟨B, hB, h⟩ := ih
    refine ⟨(if 0 ≤ c then c else -c) + M * B, ?_, fun u h1 h2 => ?_⟩
    · have := Rat.mul_nonneg hM hB
      grind
    · obtain ⟨g1, g2⟩ := h u h1 h2
      have := mul_le u (evp q u) M B h1 h2 g1 g2
      simp only [evp]
      grind
theorem dv_bound (M : Rat) (hM : 0 ≤ M) (q : List Rat) : ∃ B : Rat, 0 ≤ B ∧ ∀ u, -M ≤ u → u ≤ M → -B ≤ dv q u ∧ dv q u ≤ B := by
  cases q with
  | nil => exact ⟨0, by grind, fun u _ _ => by simp only [dv]; grind⟩
  | cons c q =>
    obtain ⟨B, hB, h⟩ := ev_bound M hM (Dk 1 q)
    exact ⟨B, hB, fun u h1 h2 => by rw [← ev_D c q u]; exact h u h1 h2⟩
theorem sq_nonneg' (x : Rat) : 0 ≤ x * x := by
  by_cases h : 0 ≤ x
  · exact Rat.mul_nonneg h h
  · have := Rat.mul_nonneg (a := -x) (b := -x) (by grind) (by grind)
    grind
/-- A step along a polynomial, against its derivative. -/
theorem taylor (M : Rat) (hM : 0 ≤ M) (p : List Rat) : ∃ K : Rat, 0 ≤ K ∧ ∀ u v, -M ≤ u → u ≤ M → -M ≤ v → v ≤ M →
    -(K * ((v - u) * (v - u))) ≤ evp p v - evp p u - dv p u * (v - u) ∧ evp p v - evp p u - dv p u * (v - u) ≤ K * ((v - u) * (v - u)) := by
  induction p with
  | nil => exact ⟨0, by grind, fun u v _ _ _ _ => by simp only [evp, dv]; grind⟩
  | cons c q ih =>
    obtain ⟨K, hK, h⟩ := ih
    obtain ⟨B, hB, hb⟩ := dv_bound M hM q
    refine ⟨M * K + B, by have := Rat.mul_nonneg hM hK; grind, fun u v hu1 hu2 hv1 hv2 => ?_⟩
    obtain ⟨t1, t2⟩ := h u v hu1 hu2 hv1 hv2
    obtain ⟨b1, b2⟩ := hb u hu1 hu2
    have e : evp (c :: q) v - evp (c :: q) u - dv (c :: q) u * (v - u) = v * (evp q v - evp q u - dv q u * (v - u)) + dv q u * ((v - u) * (v - u)) := by
      simp only [evp, dv]; grind
    rw [e]
    have hs := sq_nonneg' (v - u)
    generalize (v - u) * (v - u) = S at *
    generalize evp q v - evp q u - dv q u * (v - u) = T at *
    have m1 := mul_le v T M (K * S) hv1 hv2 t1 t2
    have m2 := mul_le (dv q u) S B S b1 b2 (by grind) (by grind)
    grind

theorem arch (x : Rat) : ∃ N : Nat, 0 < N ∧ x < (N : Rat) := by
  refine ⟨x.ceil.toNat + 1, by omega, ?_⟩
  have h1 : x ≤ (x.ceil : Rat) := Rat.le_ceil
  have h2 : x.ceil ≤ ((x.ceil.toNat : Nat) : Int) := by omega
  have h3 : (x.ceil : Rat) ≤ (((x.ceil.toNat : Nat) : Int) : Rat) := by exact_mod_cast h2
  have h4 : ((x.ceil.toNat + 1 : Nat) : Rat) = (((x.ceil.toNat : Nat) : Int) : Rat) + 1 := by
    rw [Rat.intCast_natCast]
    simp
  rw [h4]
  grind
/-- What is at least -C/N for every N is not negative. -/
theorem limit (X C : Rat) (_hC : 0 ≤ C) (h : ∀ N : Nat, 0 < N → -C ≤ (N : Rat) * X) : 0 ≤ X := by
  by_cases hX : 0 ≤ X
  · exact hX
  · exfalso
    have hX' : 0 < -X := by grind
    have hne : -X ≠ 0 := by grind
    obtain ⟨N, hN, hb⟩ := arch (C * (-X)⁻¹)
    have h1 := h N hN
    have h2 : C * (-X)⁻¹ * (-X) < (N : Rat) * (-X) := Rat.mul_lt_mul_of_pos_right hb hX'
    have h3 : (-X)⁻¹ * (-X) = 1 := by rw [Rat.mul_comm]; exact Rat.mul_inv_cancel _ hne
    have h4 : C * (-X)⁻¹ * (-X) = C := by rw [Rat.mul_assoc, h3, Rat.mul_one]
    rw [h4] at h2
    grind
theorem mean_lo (p : List Rat) (a b s : Rat) (hd : ∀ u, a ≤ u → u ≤ b → s ≤ dv p u) (t t' : Rat) (h1 : a ≤ t) (h2 : t ≤ t') (h3 : t' ≤ b) : s * (t' - t) ≤ evp p t' - evp p t := by
  obtain ⟨K, hK, hT⟩ := taylor ((if 0 ≤ a then a else -a) + (if 0 ≤ b then b else -b)) (by grind) p
  have main : ∀ N : Nat, 0 < N → -(K * ((t' - t) * (t' - t))) ≤ (N : Rat) * ((evp p t' - evp p t) - s * (t' - t)) := by
    intro N hN
    have hNr : (0 : Rat) < (N : Rat) := by exact_mod_cast hN
    have hNe : (N : Rat) ≠ 0 := by grind
    generalize hh : (t' - t) * (N : Rat)⁻¹ = h
    have hNh : (N : Rat) * h = t' - t := by
      rw [← hh, Rat.mul_comm (t' - t), ← Rat.mul_assoc, Rat.mul_inv_cancel _ hNe, Rat.one_mul]
    have hinv : 0 ≤ (N : Rat)⁻¹ := Rat.le_of_lt (Rat.inv_pos.2 hNr)
    have hh0 : 0 ≤ h := by rw [← hh]; exact Rat.mul_nonneg (by grind) hinv
    have step : ∀ i : Nat, i ≤ N → (i : Rat) * (s * h - K * (h * h)) ≤ evp p (t + (i : Rat) * h) - evp p t := by
      intro i
      induction i with
      | zero =>
        intro _
        have : ((0 : Nat) : Rat) = 0 := by simp
        rw [this, Rat.zero_mul, Rat.zero_mul, Rat.add_zero]
        grind
      | succ i ih =>
        intro hi
        have hi' := ih (by omega)
        have ci : ((i + 1 : Nat) : Rat) = (i : Rat) + 1 := by simp
        have hi0 : (0 : Rat) ≤ (i : Rat) := by exact_mod_cast Nat.zero_le i
        have hle : ((i + 1 : Nat) : Rat) ≤ (N : Rat) := by exact_mod_cast hi
        rw [ci] at hle ⊢
        have g1 : 0 ≤ (i : Rat) * h := Rat.mul_nonneg hi0 hh0
        have g2 : 0 ≤ ((N : Rat) - ((i : Rat) + 1)) * h := Rat.mul_nonneg (by grind) hh0
        have g3 : ((i : Rat) + 1) * h = (i : Rat) * h + h := by grind
        have hu1 : a ≤ t + (i : Rat) * h := by grind
        have hu2 : t + (i : Rat) * h ≤ b := by grind
        have hv1 : a ≤ t + ((i : Rat) + 1) * h := by grind
        have hv2 : t + ((i : Rat) + 1) * h ≤ b := by grind
        have hT' := (hT (t + (i : Rat) * h) (t + ((i : Rat) + 1) * h) (by grind) (by grind) (by grind) (by grind)).1
        have hd' := hd _ hu1 hu2
        have e : t + ((i : Rat) + 1) * h - (t + (i : Rat) * h) = h := by grind
        rw [e] at hT'
        have hm : 0 ≤ (dv p (t + (i : Rat) * h) - s) * h := Rat.mul_nonneg (by grind) hh0
        grind
    have hN' := step N (Nat.le_refl _)
    rw [hNh] at hN'
    have e1 : t + (t' - t) = t' := by grind
    rw [e1] at hN'
    have hmul := Rat.mul_le_mul_of_nonneg_left hN' (Rat.le_of_lt hNr)
    have e2 : (N : Rat) * ((N : Rat) * (s * h - K * (h * h))) = (N : Rat) * (s * (t' - t)) - K * ((t' - t) * (t' - t)) := by
      rw [← hNh]; grind
    rw [e2] at hmul
    grind
  have := limit _ _ (by have := sq_nonneg' (t' - t); exact Rat.mul_nonneg hK this) main
  grind
def ng (p : List Rat) : List Rat := p.map fun c => -c
theorem ev_ng (p : List Rat) (u : Rat) : evp (ng p) u = -(evp p u) := by
  induction p with
  | nil => simp only [ng, List.map_nil, evp]; grind
  | cons c q ih => simp only [ng, List.map_cons, evp] at *; rw [ih]; grind
theorem dv_ng (p : List Rat) (u : Rat) : dv (ng p) u = -(dv p u) := by
  induction p with
  | nil => simp only [ng, List.map_nil, dv]; grind
  | cons c q ih =>
    have := ev_ng q u
    simp only [ng, List.map_cons, dv] at *
    rw [ih, this]; grind
theorem mean_hi (p : List Rat) (a b s : Rat) (hd : ∀ u, a ≤ u → u ≤ b → dv p u ≤ s) (t t' : Rat) (h1 : a ≤ t) (h2 : t ≤ t') (h3 : t' ≤ b) : evp p t' - evp p t ≤ s * (t' - t) := by
  have := mean_lo (ng p) a b (-s) (fun u g1 g2 => by rw [dv_ng]; have := hd u g1 g2; grind) t t' h1 h2 h3
  rw [ev_ng, ev_ng] at this
  grind

/-! ### A step of Newton's method -/
theorem le_of_mul_le {s x y : Rat} (hs : 0 < s) (h : s * x ≤ s * y) : x ≤ y := by
  by_cases hxy : x ≤ y
  · exact hxy
  · have := Rat.mul_lt_mul_of_pos_left (show y < x by grind) hs
    grind
theorem newton_pos (p : List Rat) (lo hi m s1 s2 r1 r2 c d : Rat) (hlm : lo ≤ m) (hmh : m ≤ hi) (hs : 0 < s1) (hd1 : ∀ u, lo ≤ u → u ≤ hi → s1 ≤ dv p u) (hd2 : ∀ u, lo ≤ u → u ≤ hi → dv p u ≤ s2)
    (hl : evp p lo ≤ 0) (hh : 0 ≤ evp p hi) (hr1 : s1 * r1 = evp p m) (hr2 : s2 * r2 = evp p m) (c1 : c ≤ m - r1) (c2 : c ≤ m - r2) (d1 : m - r1 ≤ d) (d2 : m - r2 ≤ d) :
    c ≤ hi ∧ lo ≤ d ∧ (lo ≤ c → evp p c ≤ 0) ∧ (d ≤ hi → 0 ≤ evp p d) := by
  have ML := mean_lo p lo hi s1 hd1
  have MH := mean_hi p lo hi s2 hd2
  have hs12 : s1 ≤ s2 := Rat.le_trans (hd1 lo (Rat.le_refl) (by grind)) (hd2 lo (Rat.le_refl) (by grind))
  have hs2 : 0 < s2 := by grind
  by_cases hp : 0 ≤ evp p m
  · have r1n : 0 ≤ r1 := le_of_mul_le hs (by grind)
    have r2n : 0 ≤ r2 := le_of_mul_le hs2 (by grind)
    have a1 := MH lo m (Rat.le_refl) hlm hmh
    have hr2m : r2 ≤ m - lo := le_of_mul_le hs2 (by grind)
    refine ⟨by grind, by grind, fun hc => ?_, fun hdh => ?_⟩
    · have a2 := ML c m hc (by grind) hmh
      have a3 := Rat.mul_le_mul_of_nonneg_left (show r1 ≤ m - c by grind) (Rat.le_of_lt hs)
      grind
    · by_cases hdm : m ≤ d
      · have a2 := ML m d hlm hdm hdh
        have a3 : 0 ≤ s1 * (d - m) := Rat.mul_nonneg (Rat.le_of_lt hs) (by grind)
        grind
      · have a2 := MH d m (by grind) (by grind) hmh
        have a3 := Rat.mul_le_mul_of_nonneg_left (show m - d ≤ r2 by grind) (Rat.le_of_lt hs2)
        grind
  · have r1n : r1 ≤ 0 := le_of_mul_le hs (by grind)
    have r2n : r2 ≤ 0 := le_of_mul_le hs2 (by grind)
    have a1 := MH m hi hlm hmh (Rat.le_refl)
    have hr2m : -r2 ≤ hi - m := le_of_mul_le hs2 (by grind)
    refine ⟨by grind, by grind, fun hc => ?_, fun hdh => ?_⟩
    · by_cases hcm : c ≤ m
      · have a2 := ML c m hc hcm hmh
        have a3 : 0 ≤ s1 * (m - c) := Rat.mul_nonneg (Rat.le_of_lt hs) (by grind)
        grind
      · have a2 := MH m c hlm (by grind) (by grind)
        have a3 := Rat.mul_le_mul_of_nonneg_left (show c - m ≤ -r2 by grind) (Rat.le_of_lt hs2)
        grind
    · have a2 := ML m d hlm (by grind) hdh
      have a3 := Rat.mul_le_mul_of_nonneg_left (show -r1 ≤ d - m by grind) (Rat.le_of_lt hs)
      grind
/-- A change of sign, in either direction. -/
def Chg (p : List Rat) (lo hi : Rat) : Prop := (evp p lo ≤ 0 ∧ 0 ≤ evp p hi) ∨ (evp p hi ≤ 0 ∧ 0 ≤ evp p lo)
theorem newton_step (p : List Rat) (lo hi m s1 s2 r1 r2 c d : Rat) (hlm : lo ≤ m) (hmh : m ≤ hi) (hs : 0 < s1 ∨ s2 < 0) (hd1 : ∀ u, lo ≤ u → u ≤ hi → s1 ≤ dv p u) (hd2 : ∀ u, lo ≤ u → u ≤ hi → dv p u ≤ s2)
    (hc : Chg p lo hi) (hr1 : s1 * r1 = evp p m) (hr2 : s2 * r2 = evp p m) (c1 : c ≤ m - r1) (c2 : c ≤ m - r2) (d1 : m - r1 ≤ d) (d2 : m - r2 ≤ d) :
    c ≤ hi ∧ lo ≤ d ∧ Chg p (if lo ≤ c then c else lo) (if d ≤ hi then d else hi) := by
  rcases hs with hs | hs
  · have hc' : evp p lo ≤ 0 ∧ 0 ≤ evp p hi := by
      rcases hc with h | h
      · exact h
      · have a := mean_lo p lo hi s1 hd1 lo hi (Rat.le_refl) (by grind) (Rat.le_refl)
        have b : 0 ≤ s1 * (hi - lo) := Rat.mul_nonneg (Rat.le_of_lt hs) (by grind)
        grind
    obtain ⟨g1, g2, g3, g4⟩ := newton_pos p lo hi m s1 s2 r1 r2 c d hlm hmh hs hd1 hd2 hc'.1 hc'.2 hr1 hr2 c1 c2 d1 d2
    refine ⟨g1, g2, Or.inl ⟨?_, ?_⟩⟩
    · split
      · exact g3 (by assumption)
      · exact hc'.1
    · split
      · exact g4 (by assumption)
      · exact hc'.2
  · have hc' : evp (ng p) lo ≤ 0 ∧ 0 ≤ evp (ng p) hi := by
      rw [ev_ng, ev_ng]
      rcases hc with h | h
      · have a := mean_hi p lo hi s2 hd2 lo hi (Rat.le_refl) (by grind) (Rat.le_refl)
        have b : 0 ≤ (-s2) * (hi - lo) := Rat.mul_nonneg (by grind) (by grind)
        grind
      · grind
    obtain ⟨g1, g2, g3, g4⟩ := newton_pos (ng p) lo hi m (-s2) (-s1) r2 r1 c d hlm hmh (by grind) (fun u a b => by rw [dv_ng]; have := hd2 u a b; grind) (fun u a b => by rw [dv_ng]; have := hd1 u a b; grind) hc'.1 hc'.2 (by rw [ev_ng]; grind) (by rw [ev_ng]; grind) c2 c1 d2 d1
    rw [ev_ng] at g3 g4 hc'
    rw [ev_ng] at hc'
    refine ⟨g1, g2, Or.inr ⟨?_, ?_⟩⟩
    · split
      · have := g4 (by assumption); grind
      · grind
    · split
      · have := g3 (by assumption); grind
      · grind
end Go.Newton
