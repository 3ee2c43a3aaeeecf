/- Values of polynomials enclose, and so do those of their derivatives. -/
import Derived.Test.YtmdicdkceekodaaGreatPN3
import Derived.Test.YtmdicdkceekodaaGreatP22
set_option linter.unusedVariables false
set_option linter.unusedSimpArgs false
namespace Go.G880.Nw
open Go Go.RX Go.G880 Go.Newton

/-- The number lies in the interval, if that is bounded. -/
def HasW (X : Iv) (q : Rat) : Prop := spec_l04Ok X = true → has X q
theorem AddI_ok {A B : Iv} (h : spec_l04Ok (spec_AddI A B) = true) : spec_l04Ok A = true ∧ spec_l04Ok B = true := by
  simp only [spec_AddI] at h
  cases kA : spec_l04Ok A
  · rw [kA] at h; simp only [Bool.not_false, cond_true, whole_not] at h; cases h
  cases kB : spec_l04Ok B
  · rw [kA, kB] at h; simp only [Bool.not_false, Bool.not_true, cond_false, cond_true, whole_not] at h; cases h
  exact ⟨rfl, rfl⟩
theorem SubI_ok2 {A B : Iv} (h : spec_l04Ok (spec_SubI A B) = true) : spec_l04Ok A = true ∧ spec_l04Ok B = true := by
  simp only [spec_SubI] at h
  cases kA : spec_l04Ok A
  · rw [kA] at h; simp only [Bool.not_false, cond_true, whole_not] at h; cases h
  cases kB : spec_l04Ok B
  · rw [kA, kB] at h; simp only [Bool.not_false, Bool.not_true, cond_false, cond_true, whole_not] at h; cases h
  exact ⟨rfl, rfl⟩
theorem MulI_ok2 {A B : Iv} (h : spec_l04Ok (spec_MulI A B) = true) : spec_l04Ok A = true ∧ spec_l04Ok B = true := by
  simp only [spec_MulI] at h
  cases kA : spec_l04Ok A
  · rw [kA] at h; simp only [Bool.not_false, cond_true, whole_not] at h; cases h
  cases kB : spec_l04Ok B
  · rw [kA, kB] at h; simp only [Bool.not_false, Bool.not_true, cond_false, cond_true, whole_not] at h; cases h
  exact ⟨rfl, rfl⟩
theorem DivI_ok2 {A B : Iv} (h : spec_l04Ok (spec_DivI A B) = true) : spec_l04Ok A = true ∧ spec_l04Ok B = true ∧ spec_l04Has B 0 = false := by
  simp only [spec_DivI] at h
  cases kA : spec_l04Ok A
  · rw [kA] at h; simp only [Bool.not_false, cond_true, whole_not] at h; cases h
  cases kB : spec_l04Ok B
  · rw [kA, kB] at h; simp only [Bool.not_false, Bool.not_true, cond_false, cond_true, whole_not] at h; cases h
  cases kH : spec_l04Has B 0
  case true => rw [kA, kB, kH] at h; simp only [Bool.not_true, cond_false, cond_true, whole_not] at h; cases h
  exact ⟨rfl, rfl, rfl⟩
theorem AddW {A B : Iv} {a b : Rat} (ha : HasW A a) (hb : HasW B b) : HasW (spec_AddI A B) (a + b) := fun h => AddI_has (ha (AddI_ok h).1) (hb (AddI_ok h).2) h
theorem MulW {A B : Iv} {a b : Rat} (ha : HasW A a) (hb : HasW B b) : HasW (spec_MulI A B) (a * b) := fun h => MulI_has (ha (MulI_ok2 h).1) (hb (MulI_ok2 h).2) h

/-- A fix, as a number. -/
def fx (n : Int) : Rat := (n : Rat) * (1 / 4294967296)
theorem fx_mul (n : Int) : fx n * 4294967296 = (n : Rat) := by
  have : (1 / 4294967296 : Rat) * 4294967296 = 1 := by decide +kernel
  rw [fx, Rat.mul_assoc, this, Rat.mul_one]
theorem has_pt {n : Int} : has ⟨n, n⟩ (fx n) := by
  simp only [has, fx_mul]
  exact ⟨Rat.le_refl, Rat.le_refl⟩
theorem has_lo {X : Iv} (h : spec_l04Ok X = true) : has X (fx X.lo) := by
  simp only [has, fx_mul]
  exact ⟨Rat.le_refl, cst ((ok_iff _).1 h).2.1⟩
theorem fx_le {a b : Int} (h : a ≤ b) : fx a ≤ fx b := le_of_mulU (by rw [fx_mul, fx_mul]; exact cst h)
theorem le_fx {a b : Int} (h : fx a ≤ fx b) : a ≤ b := by
  have := scale_le h
  rw [fx_mul, fx_mul] at this
  exact_mod_cast this
theorem has_fx {X : Iv} {q : Rat} (h : has X q) : fx X.lo ≤ q ∧ q ≤ fx X.hi :=
  ⟨le_of_mulU (by rw [fx_mul]; exact h.1), le_of_mulU (by rw [fx_mul]; exact h.2)⟩
theorem fx_has {X : Iv} {q : Rat} (h1 : fx X.lo ≤ q) (h2 : q ≤ fx X.hi) : has X q := by
  have a := scale_le h1
  have b := scale_le h2
  rw [fx_mul] at a b
  exact ⟨a, b⟩
theorem IntegerW (n : Int) : HasW (spec_Integer n) (n : Rat) := by
  intro h
  simp only [spec_Integer] at h ⊢
  cases k : spec_l00In n (-268435455) 268435455
  · rw [k] at h; simp only [Bool.not_false, cond_true, whole_not] at h; cases h
  rw [k] at h
  simp only [Bool.not_true, cond_false] at h ⊢
  rw [make_of h]
  have hb := (l00In_iff _ _ _).1 k
  rw [w64_id (by omega) (by omega)]
  have e : ((n * 4294967296 : Int) : Rat) = (n : Rat) * 4294967296 := by rw [Rat.intCast_mul, castU]
  simp only [has, e]
  exact ⟨Rat.le_refl, Rat.le_refl⟩

/-! ### Values -/
def pol (c : Nat → Rat) (i : Nat) : Nat → List Rat
  | 0 => []
  | m + 1 => c i :: pol c (i + 1) m
theorem at_loop (l : List Value) (c : Nat → Rat) (x : Iv) (u : Rat) (hx : HasW x u) (hc : ∀ k, k < l.length → HasW (atIv l false (k : Int)) (c k)) : ∀ (d f m : Nat) (pl ph : Int), d < f → d ≤ l.length → d ≤ 2000000 →
    HasW ⟨pl, ph⟩ (evp (pol c d m) u) → HasW ⟨(iterV (fun v : Int × Int × Int => spec_l09At.rnd3 l x.lo x.hi v.1 v.2.1 v.2.2) f ((d : Int) - 1, pl, ph)).2.1, (iterV (fun v : Int × Int × Int => spec_l09At.rnd3 l x.lo x.hi v.1 v.2.1 v.2.2) f ((d : Int) - 1, pl, ph)).2.2⟩ (evp (pol c 0 (d + m)) u) := by
  intro d
  induction d with
  | zero =>
    intro f m pl ph hf _ _ hp
    obtain ⟨f, rfl⟩ : ∃ m, f = m + 1 := ⟨f - 1, by omega⟩
    rw [iterV]
    have h1 : decide (((0 : Nat) : Int) - 1 ≥ 0) = false := decide_eq_false (by omega)
    simp only [spec_l09At.rnd3, h1, cond_false]
    rw [Nat.zero_add]
    exact hp
  | succ d ih =>
    intro f m pl ph hf hd hd2 hp
    obtain ⟨f, rfl⟩ : ∃ m, f = m + 1 := ⟨f - 1, by omega⟩
    rw [iterV]
    have h1 : decide (((d + 1 : Nat) : Int) - 1 ≥ 0) = true := decide_eq_true (by omega)
    have h2 : ((d + 1 : Nat) : Int) - 1 = (d : Int) := by omega
    have h3 : w64 ((d : Int) - 1) = (d : Int) - 1 := w64_id (by omega) (by omega)
    rw [h2] at h1
    simp only [spec_l09At.rnd3, h2, h1, cond_true, h3]
    have e : d + 1 + m = d + (m + 1) := by omega
    rw [e]
    refine ih f (m + 1) _ _ (by omega) (by omega) (by omega) ?_
    have hx' : HasW ⟨x.lo, x.hi⟩ u := hx
    have := AddW (MulW hp hx') (hc d (by omega))
    have e2 : evp (pol c d (m + 1)) u = evp (pol c (d + 1) m) u * u + c d := by
      simp only [pol, evp]
      rw [Rat.add_comm, Rat.mul_comm]
    rw [e2]
    exact this
theorem atW (l : List Value) (c : Nat → Rat) (x : Iv) (u : Rat) (hx : HasW x u) (hl : 1 ≤ l.length ∧ l.length ≤ 1048576) (hc : ∀ k, k < l.length → HasW (atIv l false (k : Int)) (c k)) : HasW (spec_l09At l x) (evp (pol c 0 l.length) u) := by
  have h1 : w64 ((l.length : Int) - 1) = ((l.length - 1 : Nat) : Int) := by rw [w64_id (by omega) (by omega)]; omega
  have h2 : w64 ((l.length : Int) - 2) = ((l.length - 1 : Nat) : Int) - 1 := by rw [w64_id (by omega) (by omega)]; omega
  simp only [spec_l09At, spec_l09At.fin3, h1, h2]
  have := at_loop l c x u hx hc (l.length - 1) 1048577 1 (atIv l false ((l.length - 1 : Nat) : Int)).lo (atIv l false ((l.length - 1 : Nat) : Int)).hi (by omega) (by omega) (by omega) (by
    have := hc (l.length - 1) (by omega)
    have e : evp (pol c (l.length - 1) 1) u = c (l.length - 1) := by
      simp only [pol, evp]
      rw [Rat.mul_zero, Rat.add_zero]
    rw [e]
    exact this)
  rw [show l.length - 1 + 1 = l.length by omega] at this
  exact this

/-! ### Slopes -/
theorem derD_rev (l : List Value) : ∀ (d k : Nat) (out : List Value), (derD l k d out).reverse = out.reverse ++ (List.range d).map fun j => oneD l (k + j) := by
  intro d
  induction d with
  | zero => intro k out; simp [derD]
  | succ d ih =>
    intro k out
    have e : ((List.range d).map fun j => oneD l (k + 1 + j)) = (List.range d).map ((fun j => oneD l (k + j)) ∘ Nat.succ) :=
      List.map_congr_left fun j _ => by
        rw [Function.comp_apply, show k + 1 + j = k + Nat.succ j by omega]
    rw [derD, ih, List.reverse_cons, List.append_assoc, List.range_succ_eq_map, List.map_cons, List.map_map, e, List.singleton_append, Nat.add_zero]
theorem rowIv_agg (t : Iv) : rowIv (.agg #[.int .i64 t.lo, .int .i64 t.hi]) = t := by cases t; rfl
theorem nth_der (l : List Value) (n k : Nat) (hk : k < n) : nthR ((List.range n).map fun j => oneD l (0 + j)) false k = oneD l k := by
  simp only [nthR, List.getD, List.getElem?_map, List.getElem?_range hk, Option.map_some, Option.getD_some, Nat.zero_add]
theorem der_vals {l : List Value} (hl : (l.length : Int) ≤ 1048576) (h : ((spec_PolyDerivative l).2 == 0) = true) :
    (1 < l.length ∧ (List.reverse (spec_PolyDerivative l).1).length = l.length - 1 ∧ ∀ k, k < l.length - 1 → atIv (List.reverse (spec_PolyDerivative l).1) false (k : Int) = spec_MulI (spec_Integer ((k + 1 : Nat) : Int)) (atIv l false ((k + 1 : Nat) : Int))) ∨
    (l.length = 1 ∧ (List.reverse (spec_PolyDerivative l).1).length = 1 ∧ atIv (List.reverse (spec_PolyDerivative l).1) false ((0 : Nat) : Int) = spec_Integer 0) := by
  cases hv : spec_l09Ok l
  · simp only [spec_PolyDerivative, hv, Bool.not_false, cond_true] at h
    cases h
  have hn := l09_len hl hv
  have hn' : 1 ≤ (l.length : Int) ∧ (l.length : Int) ≤ 1048576 := by omega
  simp only [spec_PolyDerivative, hv, Bool.not_true, cond_false, sder_fin l hn'] at h ⊢
  by_cases h1 : l.length = 1
  · right
    rw [h1, show derD l 0 (1 - 1) [] = [] from rfl]
    exact ⟨rfl, by kernel_rfl, by kernel_rfl⟩
  · left
    have e2 : (((derD l 0 (l.length - 1) []).length : Int) == 0) = false := by rw [derD_len]; simp only [beq_eq_false_iff_ne, ne_eq, List.length_nil]; omega
    have e3 : decide (((derD l 0 (l.length - 1) []).length : Int) > 17) = false := by rw [derD_len]; exact decide_eq_false (by simp only [List.length_nil]; omega)
    simp only [e2, e3, cond_false] at h ⊢
    cases h5 : spec_l09Ok (List.reverse (derD l 0 (l.length - 1) []))
    · rw [h5] at h; cases h
    · simp only [Bool.not_true, cond_false]
      refine ⟨by omega, by rw [List.length_reverse, derD_len, List.length_nil]; omega, fun k hk => ?_⟩
      have ea : atIv l false ((k + 1 : Nat) : Int) = rowIv (nthR l false (k + 1)) := by rw [atIv, Int.toNat_natCast]
      rw [derD_rev, List.reverse_nil, List.nil_append, ea, atIv, Int.toNat_natCast, nth_der l _ k hk]
      exact rowIv_agg _
theorem pol_shift (c : Nat → Rat) : ∀ (m i : Nat), Dk (i + 1) (pol c (i + 1) m) = pol (fun k => ((k + 1 : Nat) : Rat) * c (k + 1)) i m := by
  intro m
  induction m with
  | zero => intro i; rfl
  | succ m ih => intro i; simp only [pol, Dk]; rw [ih (i + 1)]
theorem slopeW (l : List Value) (c : Nat → Rat) (x : Iv) (u : Rat) (hx : HasW x u) (hl : 1 ≤ l.length ∧ l.length ≤ 17) (hc : ∀ k, k < l.length → HasW (atIv l false (k : Int)) (c k)) (h : ((spec_PolyDerivative l).2 == 0) = true) :
    HasW (spec_l09At (List.reverse (spec_PolyDerivative l).1) x) (dv (pol c 0 l.length) u) := by
  rcases der_vals (by omega) h with ⟨h1, h2, h3⟩ | ⟨h1, h2, h3⟩
  · have := atW (List.reverse (spec_PolyDerivative l).1) (fun k => ((k + 1 : Nat) : Rat) * c (k + 1)) x u hx (by omega) (fun k hk => by
      rw [h3 k (by omega)]
      have e := IntegerW ((k + 1 : Nat) : Int)
      have e2 : ((((k + 1 : Nat) : Int)) : Rat) = ((k + 1 : Nat) : Rat) := Rat.intCast_natCast _
      rw [e2] at e
      exact MulW e (hc (k + 1) (by omega)))
    rw [h2, ← pol_shift, ev_D (c 0)] at this
    have e : pol c 0 l.length = c 0 :: pol c (0 + 1) (l.length - 1) := by
      obtain ⟨n, hn⟩ : ∃ n, l.length = n + 1 := ⟨l.length - 1, by omega⟩
      rw [hn]
      rfl
    rw [e]
    exact this
  · have := atW (List.reverse (spec_PolyDerivative l).1) (fun k => 0) x u hx (by omega) (fun k hk => by
      have : k = 0 := by omega
      subst this
      rw [h3]
      exact IntegerW 0)
    have e : evp (pol (fun _ => (0 : Rat)) 0 (List.reverse (spec_PolyDerivative l).1).length) u = dv (pol c 0 l.length) u := by
      rw [h2, h1]
      simp only [pol, evp, dv]
    rw [e] at this
    exact this
end Go.G880.Nw
