/- Real numbers: classes of Cauchy sequences of fractions. -/
set_option linter.unusedVariables false
namespace Go.Rl
def Cau (f : Nat → Rat) : Prop := ∀ e : Rat, 0 < e → ∃ N : Nat, ∀ m n, N ≤ m → N ≤ n → f m - f n ≤ e
def Sml (f : Nat → Rat) : Prop := ∀ e : Rat, 0 < e → ∃ N : Nat, ∀ n, N ≤ n → -e ≤ f n ∧ f n ≤ e
def PosS (f : Nat → Rat) : Prop := ∃ c : Rat, 0 < c ∧ ∃ N : Nat, ∀ n, N ≤ n → c ≤ f n
theorem half_pos {e : Rat} (h : 0 < e) : 0 < e / 2 := by grind
theorem mul_bd {a b A B : Rat} (a1 : -A ≤ a) (a2 : a ≤ A) (b1 : -B ≤ b) (b2 : b ≤ B) : -(A * B) ≤ a * b ∧ a * b ≤ A * B := by
 have h1 := Rat.mul_nonneg (a := A - a) (b := B + b) (by grind) (by grind)
 have h2 := Rat.mul_nonneg (a := A + a) (b := B - b) (by grind) (by grind)
 have h3 := Rat.mul_nonneg (a := A + a) (b := B + b) (by grind) (by grind)
 have h4 := Rat.mul_nonneg (a := A - a) (b := B - b) (by grind) (by grind)
 constructor <;> grind
theorem cau_const (q : Rat) : Cau fun _ => q := fun e he => ⟨0, fun _ _ _ _ => by grind⟩
theorem cau_add {f g : Nat → Rat} (hf : Cau f) (hg : Cau g) : Cau fun n => f n + g n := by
 intro e he
 obtain ⟨N1, h1⟩ := hf (e / 2) (half_pos he)
 obtain ⟨N2, h2⟩ := hg (e / 2) (half_pos he)
 refine ⟨max N1 N2, fun m n hm hn => ?_⟩
 have a := h1 m n (by omega) (by omega)
 have b := h2 m n (by omega) (by omega)
 grind
theorem cau_neg {f : Nat → Rat} (hf : Cau f) : Cau fun n => -f n := fun e he => by
 obtain ⟨N, h⟩ := hf e he
 exact ⟨N, fun m n hm hn => by have := h n m hn hm; grind⟩
theorem cau_bdd {f : Nat → Rat} (hf : Cau f) : ∃ B : Rat, 0 < B ∧ ∃ N : Nat, ∀ n, N ≤ n → -B ≤ f n ∧ f n ≤ B := by
 obtain ⟨N, h⟩ := hf 1 (by decide)
 by_cases hp : 0 ≤ f N
 ·refine ⟨f N + 1, by grind, N, fun n hn => ?_⟩
  have a := h N n (by omega) hn
  have b := h n N hn (by omega)
  constructor <;> grind
 ·refine ⟨1 - f N, by grind, N, fun n hn => ?_⟩
  have a := h N n (by omega) hn
  have b := h n N hn (by omega)
  constructor <;> grind
theorem div2 {A e : Rat} (hA : 0 < A) : A * (e / (2 * A)) = e / 2 := by
 have : A ≠ 0 := by grind
 grind
theorem div2_pos {A e : Rat} (hA : 0 < A) (he : 0 < e) : 0 < e / (2 * A) := by
 have h : 0 < (2 * A)⁻¹ := Rat.inv_pos.2 (by grind)
 have := Rat.mul_pos he h
 rwa [← Rat.div_def] at this
theorem cau_mul {f g : Nat → Rat} (hf : Cau f) (hg : Cau g) : Cau fun n => f n * g n := by
 intro e he
 obtain ⟨A, hA, NA, ha⟩ := cau_bdd hf
 obtain ⟨B, hB, NB, hb⟩ := cau_bdd hg
 obtain ⟨N1, h1⟩ := hf (e / (2 * B)) (div2_pos hB he)
 obtain ⟨N2, h2⟩ := hg (e / (2 * A)) (div2_pos hA he)
 refine ⟨max (max NA NB) (max N1 N2), fun m n hm hn => ?_⟩
 have a := ha m (by omega)
 have b := hb n (by omega)
 have c1 := h1 m n (by omega) (by omega)
 have c2 := h1 n m (by omega) (by omega)
 have d1 := h2 m n (by omega) (by omega)
 have d2 := h2 n m (by omega) (by omega)
 have p := mul_bd a.1 a.2 (b := g m - g n) (B := e / (2 * A)) (by grind) d1
 have q := mul_bd b.1 b.2 (b := f m - f n) (B := e / (2 * B)) (by grind) c1
 rw [div2 hA] at p
 rw [div2 hB] at q
 grind
theorem sml_add {f g : Nat → Rat} (hf : Sml f) (hg : Sml g) : Sml fun n => f n + g n := by
 intro e he
 obtain ⟨N1, h1⟩ := hf (e / 2) (half_pos he)
 obtain ⟨N2, h2⟩ := hg (e / 2) (half_pos he)
 refine ⟨max N1 N2, fun n hn => ?_⟩
 have a := h1 n (by omega)
 have b := h2 n (by omega)
 constructor <;> grind
theorem sml_neg {f : Nat → Rat} (hf : Sml f) : Sml fun n => -f n := fun e he => by
 obtain ⟨N, h⟩ := hf e he
 exact ⟨N, fun n hn => by have := h n hn; constructor <;> grind⟩
theorem sml_mul {f g : Nat → Rat} (hf : Cau f) (hg : Sml g) : Sml fun n => f n * g n := by
 intro e he
 obtain ⟨A, hA, NA, ha⟩ := cau_bdd hf
 obtain ⟨N2, h2⟩ := hg (e / (2 * A)) (div2_pos hA he)
 refine ⟨max NA N2, fun n hn => ?_⟩
 have a := ha n (by omega)
 have d := h2 n (by omega)
 have p := mul_bd a.1 a.2 d.1 d.2
 rw [div2 hA] at p
 constructor <;> grind
theorem sml_congr {f g : Nat → Rat} (hf : Sml f) (h : ∀ n, g n = f n) : Sml g := by
 have : g = f := funext h
 rwa [this]
theorem sml_zero : Sml fun _ => 0 := fun e he => ⟨0, fun _ _ => by constructor <;> grind⟩
theorem sml_or {f : Nat → Rat} (hf : Cau f) : Sml f ∨ PosS f ∨ PosS fun n => -f n := by
 by_cases hs : Sml f
 ·exact .inl hs
 right
 have : ∃ e : Rat, 0 < e ∧ ∀ N : Nat, ∃ n, N ≤ n ∧ ¬ (-e ≤ f n ∧ f n ≤ e) := by
  apply Classical.byContradiction
  intro hc
  apply hs
  intro e he
  apply Classical.byContradiction
  intro hn
  apply hc
  refine ⟨e, he, fun N => ?_⟩
  apply Classical.byContradiction
  intro hx
  apply hn
  refine ⟨N, fun n hN => ?_⟩
  apply Classical.byContradiction
  intro hy
  exact hx ⟨n, hN, hy⟩
 obtain ⟨e, he, h⟩ := this
 obtain ⟨N, hN⟩ := hf (e / 2) (half_pos he)
 obtain ⟨n, hn, hx⟩ := h N
 by_cases hp : f n ≤ e
 ·right
  refine ⟨e / 2, half_pos he, N, fun k hk => ?_⟩
  have a := hN k n hk hn
  have : ¬ -e ≤ f n := fun h => hx ⟨h, hp⟩
  show e / 2 ≤ -f k
  grind
 ·left
  refine ⟨e / 2, half_pos he, N, fun k hk => ?_⟩
  have a := hN n k hn hk
  grind
theorem pos_sml {f g : Nat → Rat} (hf : PosS f) (hs : Sml fun n => g n - f n) : PosS g := by
 obtain ⟨c, hc, N, h⟩ := hf
 obtain ⟨N2, h2⟩ := hs (c / 2) (half_pos hc)
 refine ⟨c / 2, half_pos hc, max N N2, fun n hn => ?_⟩
 have a := h n (by omega)
 have b := h2 n (by omega)
 grind
theorem pos_add {f g : Nat → Rat} (hf : PosS f) (hg : PosS g) : PosS fun n => f n + g n := by
 obtain ⟨c, hc, N, h⟩ := hf
 obtain ⟨d, hd, N2, h2⟩ := hg
 refine ⟨c + d, by grind, max N N2, fun n hn => ?_⟩
 have a := h n (by omega)
 have b := h2 n (by omega)
 grind
theorem pos_mul {f g : Nat → Rat} (hf : PosS f) (hg : PosS g) : PosS fun n => f n * g n := by
 obtain ⟨c, hc, N, h⟩ := hf
 obtain ⟨d, hd, N2, h2⟩ := hg
 refine ⟨c * d, Rat.mul_pos hc hd, max N N2, fun n hn => ?_⟩
 have a := h n (by omega)
 have b := h2 n (by omega)
 have p := Rat.mul_nonneg (a := f n - c) (b := g n) (by grind) (by grind)
 have q := Rat.mul_nonneg (a := c) (b := g n - d) (by grind) (by grind)
 grind
theorem pos_not_sml {f : Nat → Rat} (hf : PosS f) : ¬ Sml f := by
 intro hs
 obtain ⟨c, hc, N, h⟩ := hf
 obtain ⟨N2, h2⟩ := hs (c / 2) (half_pos hc)
 have a := h (max N N2) (by omega)
 have b := h2 (max N N2) (by omega)
 grind
theorem pos_inv {f : Nat → Rat} (hf : Cau f) (hp : PosS f) : Cau (fun n => (f n)⁻¹) ∧ Sml fun n => f n * (f n)⁻¹ - 1 := by
 obtain ⟨c, hc, N, h⟩ := hp
 have hne : ∀ n, N ≤ n → f n ≠ 0 := fun n hn h0 => by have := h n hn; grind
 constructor
 ·intro e he
  have hcc := Rat.mul_pos hc hc
  obtain ⟨N2, h2⟩ := hf (e * (c * c)) (Rat.mul_pos he hcc)
  refine ⟨max N N2, fun m n hm hn => ?_⟩
  have a := h m (by omega)
  have b := h n (by omega)
  have na := hne m (by omega)
  have nb := hne n (by omega)
  have d := h2 n m (by omega) (by omega)
  have pm : 0 < f m := by grind
  have pn : 0 < f n := by grind
  have pp := Rat.mul_pos pm pn
  have e1 : f m * f n * ((f m)⁻¹ - (f n)⁻¹) = f n - f m := by grind
  have e2 : c * c ≤ f m * f n := by
   have p := Rat.mul_nonneg (a := f m - c) (b := f n) (by grind) (by grind)
   have q := Rat.mul_nonneg (a := c) (b := f n - c) (by grind) (by grind)
   grind
  have e3 : e * (c * c) ≤ e * (f m * f n) := Rat.mul_le_mul_of_nonneg_left e2 (by grind)
  refine Rat.le_of_mul_le_mul_left (c := f m * f n) ?_ pp
  rw [e1]
  grind
 ·intro e he
  refine ⟨N, fun n hn => ?_⟩
  have := hne n hn
  show -e ≤ f n * (f n)⁻¹ - 1 ∧ f n * (f n)⁻¹ - 1 ≤ e
  rw [Rat.mul_inv_cancel _ this]
  constructor <;> grind
structure CS where
 f : Nat → Rat
 c : Cau f
instance setoid : Setoid CS where
 r a b := Sml fun n => a.f n - b.f n
 iseqv := ⟨fun a => sml_congr sml_zero fun n => by grind, fun h => sml_congr (sml_neg h) fun n => by grind, fun h k => sml_congr (sml_add h k) fun n => by grind⟩
def R : Type := Quotient setoid
namespace R
def mk (f : Nat → Rat) (h : Cau f) : R := Quotient.mk setoid ⟨f, h⟩
theorem mk_eq {f g : Nat → Rat} {hf : Cau f} {hg : Cau g} : mk f hf = mk g hg ↔ Sml fun n => f n - g n :=
 ⟨fun h => Quotient.exact h, fun h => Quotient.sound h⟩
theorem ex (x : R) : ∃ f, ∃ h : Cau f, x = mk f h := by
 induction x using Quotient.ind with
 | _ a => exact ⟨a.f, a.c, rfl⟩
def of (q : Rat) : R := mk (fun _ => q) (cau_const q)
def add : R → R → R := Quotient.lift₂ (fun a b => mk _ (cau_add a.c b.c)) fun a b c d h k => mk_eq.2 (sml_congr (sml_add h k) fun n => by grind)
def neg : R → R := Quotient.lift (fun a => mk _ (cau_neg a.c)) fun a b h => mk_eq.2 (sml_congr (sml_neg h) fun n => by grind)
def mul : R → R → R := Quotient.lift₂ (fun a b => mk _ (cau_mul a.c b.c)) fun a b c d h k =>
 mk_eq.2 (sml_congr (sml_add (sml_mul a.c k) (sml_mul d.c h)) fun n => by grind)
def pos : R → Prop := Quotient.lift (fun a => PosS a.f) fun a b h => propext ⟨fun p => pos_sml p (sml_congr (sml_neg h) fun n => by grind), fun p => pos_sml p h⟩
instance : Add R := ⟨add⟩
instance : Neg R := ⟨neg⟩
instance : Sub R := ⟨fun a b => add a (neg b)⟩
instance : Mul R := ⟨mul⟩
instance : NatCast R := ⟨fun n => of n⟩
instance : IntCast R := ⟨fun n => of n⟩
instance (n : Nat) : OfNat R n := ⟨of n⟩
def powN (x : R) : Nat → R
 | 0 => 1
 | n + 1 => powN x n * x
instance : HPow R Nat R := ⟨powN⟩
instance : SMul Nat R := ⟨fun n x => of n * x⟩
instance : SMul Int R := ⟨fun n x => of n * x⟩
instance : LT R := ⟨fun a b => pos (b - a)⟩
instance : LE R := ⟨fun a b => ¬ pos (a - b)⟩
theorem mk_ext {f g : Nat → Rat} {hf : Cau f} {hg : Cau g} (h : ∀ n, f n = g n) : mk f hf = mk g hg := mk_eq.2 (sml_congr sml_zero fun n => by rw [h n]; grind)
theorem of_add (p q : Rat) : of (p + q) = of p + of q := rfl
theorem of_mul (p q : Rat) : of (p * q) = of p * of q := rfl
theorem of_neg (p : Rat) : of (-p) = -of p := rfl
theorem of_inj {p q : Rat} (h : of p = of q) : p = q := by
 have := mk_eq.1 h
 apply Classical.byContradiction
 intro hn
 by_cases hpq : 0 < p - q
 ·obtain ⟨N, k⟩ := this ((p - q) / 2) (half_pos hpq)
  have := k N (Nat.le_refl _)
  grind
 ·obtain ⟨N, k⟩ := this ((q - p) / 2) (half_pos (by grind))
  have := k N (Nat.le_refl _)
  grind
theorem add_assoc' (a b c : R) : a + b + c = a + (b + c) := by
 obtain ⟨f, hf, rfl⟩ := ex a; obtain ⟨g, hg, rfl⟩ := ex b; obtain ⟨h, hh, rfl⟩ := ex c
 exact mk_ext fun n => by grind
theorem add_comm' (a b : R) : a + b = b + a := by
 obtain ⟨f, hf, rfl⟩ := ex a; obtain ⟨g, hg, rfl⟩ := ex b
 exact mk_ext fun n => by grind
theorem add_zero' (a : R) : a + 0 = a := by
 obtain ⟨f, hf, rfl⟩ := ex a
 exact mk_ext fun n => by show f n + ((0 : Nat) : Rat) = f n; grind
theorem neg_add_cancel' (a : R) : -a + a = 0 := by
 obtain ⟨f, hf, rfl⟩ := ex a
 exact mk_ext fun n => by show -f n + f n = ((0 : Nat) : Rat); grind
theorem mul_assoc' (a b c : R) : a * b * c = a * (b * c) := by
 obtain ⟨f, hf, rfl⟩ := ex a; obtain ⟨g, hg, rfl⟩ := ex b; obtain ⟨h, hh, rfl⟩ := ex c
 exact mk_ext fun n => by grind
theorem mul_comm' (a b : R) : a * b = b * a := by
 obtain ⟨f, hf, rfl⟩ := ex a; obtain ⟨g, hg, rfl⟩ := ex b
 exact mk_ext fun n => by grind
theorem mul_one' (a : R) : a * 1 = a := by
 obtain ⟨f, hf, rfl⟩ := ex a
 exact mk_ext fun n => by show f n * ((1 : Nat) : Rat) = f n; grind
theorem left_distrib' (a b c : R) : a * (b + c) = a * b + a * c := by
 obtain ⟨f, hf, rfl⟩ := ex a; obtain ⟨g, hg, rfl⟩ := ex b; obtain ⟨h, hh, rfl⟩ := ex c
 exact mk_ext fun n => by grind
theorem right_distrib' (a b c : R) : (a + b) * c = a * c + b * c := by rw [mul_comm', left_distrib', mul_comm' c a, mul_comm' c b]
theorem zero_mul' (a : R) : 0 * a = 0 := by
 obtain ⟨f, hf, rfl⟩ := ex a
 exact mk_ext fun n => by show ((0 : Nat) : Rat) * f n = ((0 : Nat) : Rat); grind
theorem pos_or (a : R) : a = 0 ∨ pos a ∨ pos (-a) := by
 obtain ⟨f, hf, rfl⟩ := ex a
 rcases sml_or hf with h | h | h
 ·exact .inl (mk_eq.2 (sml_congr h fun n => by show f n - ((0 : Nat) : Rat) = f n; grind))
 ·exact .inr (.inl h)
 ·exact .inr (.inr h)
theorem pos_add' {a b : R} (ha : pos a) (hb : pos b) : pos (a + b) := by
 obtain ⟨f, hf, rfl⟩ := ex a; obtain ⟨g, hg, rfl⟩ := ex b
 exact pos_add ha hb
theorem pos_mul' {a b : R} (ha : pos a) (hb : pos b) : pos (a * b) := by
 obtain ⟨f, hf, rfl⟩ := ex a; obtain ⟨g, hg, rfl⟩ := ex b
 exact pos_mul ha hb
theorem not_pos_zero : ¬ pos 0 := fun h => pos_not_sml h (sml_congr sml_zero fun _ => rfl)
theorem inv_ex (a : R) (h : a ≠ 0) : ∃ b, a * b = 1 := by
 have key : ∀ a : R, pos a → ∃ b, a * b = 1 := by
  intro a ha
  obtain ⟨f, hf, rfl⟩ := ex a
  obtain ⟨h1, h2⟩ := pos_inv hf ha
  exact ⟨mk _ h1, mk_eq.2 (sml_congr h2 fun n => by show f n * (f n)⁻¹ - ((1 : Nat) : Rat) = _; grind)⟩
 rcases pos_or a with h0 | h0 | h0
 ·exact absurd h0 h
 ·exact key a h0
 ·obtain ⟨b, hb⟩ := key _ h0
  refine ⟨-b, ?_⟩
  rw [← hb]
  obtain ⟨f, hf, rfl⟩ := ex a; obtain ⟨g, hg, rfl⟩ := ex b
  exact mk_ext fun n => by grind
open Classical in
noncomputable def inv (a : R) : R := if h : a = 0 then 0 else Classical.choose (inv_ex a h)
noncomputable instance : Inv R := ⟨inv⟩
noncomputable instance : Div R := ⟨fun a b => a * b⁻¹⟩
noncomputable def powZ (x : R) : Int → R
 | .ofNat n => x ^ n
 | .negSucc n => (x ^ (n + 1))⁻¹
noncomputable instance : HPow R Int R := ⟨powZ⟩
theorem mul_inv_cancel' {a : R} (h : a ≠ 0) : a * a⁻¹ = 1 := by
 show a * inv a = 1
 simp only [inv, h, dite_false]
 exact Classical.choose_spec (inv_ex a h)
theorem inv_zero' : (0 : R)⁻¹ = 0 := by
 show inv 0 = 0
 simp [inv]
theorem zero_ne_one' : (0 : R) ≠ 1 := fun h => by
 have h2 : ((0 : Nat) : Rat) = ((1 : Nat) : Rat) := of_inj h
 exact absurd h2 (by decide)
end R
end Go.Rl
/- The numbers are an ordered field. -/
set_option linter.unusedVariables false
namespace Go.Rl
abbrev likeA {C : Type → Type} {α : Type} (_ : C α) : Type → Type := C
abbrev CRing : Type → Type := likeA Dyadic.instCommRing
abbrev likeF {C : Type → Type} {f : (α : Type) → C α → CRing α} {x : C Rat} [i : CRing Rat] (_ : i = f Rat x) : Type → Type := C
abbrev Fld : Type → Type := likeF (i := inferInstance) rfl
abbrev likeO {S : Type → Type} {C : (α : Type) → S α → (le : LE α) → LT α → @Std.IsPreorder α le → Prop} {s : S Dyadic} {le : LE Dyadic} {lt : LT Dyadic} {pre : @Std.IsPreorder Dyadic le} (_ : C Dyadic s le lt pre) :
  (α : Type) → S α → (le : LE α) → LT α → @Std.IsPreorder α le → Prop := C
abbrev ORing := likeO Dyadic.instOrderedRing
namespace R
theorem pow_succ' (a : R) (n : Nat) : a ^ (n + 1) = a ^ n * a := rfl
theorem pow_zero' (a : R) : a ^ 0 = 1 := rfl
theorem neg_of_mul (i : Rat) (a : R) : of (-i) * a = -(of i * a) := by
 obtain ⟨f, hf, rfl⟩ := ex a
 exact mk_ext fun n => by grind
noncomputable instance : Fld R where
 add_assoc := add_assoc'
 add_comm := add_comm'
 add_zero := add_zero'
 neg_add_cancel := neg_add_cancel'
 mul_assoc := mul_assoc'
 mul_comm := mul_comm'
 mul_one := mul_one'
 one_mul a := by rw [mul_comm', mul_one']
 left_distrib := left_distrib'
 right_distrib := right_distrib'
 zero_mul := zero_mul'
 mul_zero a := by rw [mul_comm', zero_mul']
 pow_zero := pow_zero'
 pow_succ := pow_succ'
 ofNat_succ n := by
  show of ((n + 1 : Nat) : Rat) = of (n : Rat) + of ((1 : Nat) : Rat)
  rw [← of_add, Rat.natCast_add]
 sub_eq_add_neg a b := rfl
 neg_zsmul i a := by
  show of ((-i : Int) : Rat) * a = -(of (i : Rat) * a)
  rw [Rat.intCast_neg]
  exact neg_of_mul _ _
 div_eq_mul_inv a b := rfl
 zero_ne_one := zero_ne_one'
 inv_zero := inv_zero'
 mul_inv_cancel := mul_inv_cancel'
 zpow_zero a := rfl
 zpow_succ a n := rfl
 zpow_neg a n := by
  show powZ a (-n) = (powZ a n)⁻¹
  cases n with
  | ofNat n =>
   cases n with
   | zero =>
    show (1 : R) = (1 : R)⁻¹
    have h := mul_inv_cancel' (a := (1 : R)) (fun h => zero_ne_one' h.symm)
    rw [mul_comm', mul_one'] at h
    exact h.symm
   | succ n => rfl
  | negSucc n =>
   show a ^ (n + 1) = ((a ^ (n + 1))⁻¹)⁻¹
   by_cases h : a ^ (n + 1) = 0
   ·rw [h, inv_zero', inv_zero']
   ·have h1 := mul_inv_cancel' h
    have h2 : (a ^ (n + 1))⁻¹ ≠ 0 := by
     intro h3
     rw [h3, mul_comm', zero_mul'] at h1
     exact zero_ne_one' h1
    have h3 := mul_inv_cancel' h2
    have h4 := congrArg (fun t => a ^ (n + 1) * t) h3
    simp only [← mul_assoc', h1, mul_one'] at h4
    rw [mul_comm', mul_one'] at h4
    exact h4.symm
theorem le_def (a b : R) : a ≤ b ↔ ¬ pos (a - b) := Iff.rfl
theorem lt_def (a b : R) : a < b ↔ pos (b - a) := Iff.rfl
theorem pos_neg_sub {a b : R} : -(a - b) = b - a := by grind
theorem not_both {a : R} (h : pos a) (k : pos (-a)) : False := by
 have := pos_add' h k
 rw [show a + -a = 0 by grind] at this
 exact not_pos_zero this
instance : Std.IsLinearOrder R where
 le_refl a := by rw [le_def, show a - a = 0 by grind]; exact not_pos_zero
 le_trans a b c h k := by
  rw [le_def] at *
  intro hp
  rcases pos_or (a - b) with e | e | e
  ·rw [show a - c = b - c by grind] at hp; exact k hp
  ·exact h e
  ·rcases pos_or (b - c) with f | f | f
   ·rw [show a - c = a - b by grind] at hp; exact h hp
   ·exact k f
   ·have := pos_add' (pos_add' e f) hp
    rw [show -(a - b) + -(b - c) + (a - c) = 0 by grind] at this
    exact not_pos_zero this
 le_antisymm a b h k := by
  rw [le_def] at *
  rcases pos_or (a - b) with e | e | e
  ·grind
  ·exact absurd e h
  ·rw [pos_neg_sub] at e; exact absurd e k
 le_total a b := by
  rw [le_def, le_def]
  rcases pos_or (a - b) with e | e | e
  ·left; rw [e]; exact not_pos_zero
  ·right; intro h; exact not_both e (by rw [pos_neg_sub]; exact h)
  ·left; intro h; exact not_both h e
instance : Std.LawfulOrderLT R where
 lt_iff a b := by
  rw [lt_def, le_def, le_def, Classical.not_not]
  refine ⟨fun h => ⟨fun k => not_both k (by rw [pos_neg_sub]; exact h), h⟩, fun h => h.2⟩
instance : ORing R inferInstance inferInstance inferInstance inferInstance where
 add_le_left_iff {a b} c := by rw [le_def, le_def, show a + c - (b + c) = a - b by grind]
 zero_lt_one := by
  rw [lt_def]
  refine ⟨1, by decide, 0, fun n _ => ?_⟩
  show (1 : Rat) ≤ ((1 : Nat) : Rat) + -((0 : Nat) : Rat)
  decide +kernel
 mul_lt_mul_of_pos_left {a b c} h k := by
  rw [lt_def] at *
  rw [show c * b - c * a = (c - 0) * (b - a) by grind]
  exact pos_mul' k h
 mul_lt_mul_of_pos_right {a b c} h k := by
  rw [lt_def] at *
  rw [show b * c - a * c = (c - 0) * (b - a) by grind]
  exact pos_mul' k h
theorem lt_mul {a b c : R} (h : a < b) (k : 0 < c) : c * a < c * b := by
 rw [lt_def] at *
 rw [show c * b - c * a = (c - 0) * (b - a) by grind]
 exact pos_mul' k h
example (a b : R) (h : a < b) (k : b < 2 * a) : 0 < a + b * 3 := by grind
example (a b : R) (h : a ≠ 0) : (a * b) / a = b := by grind
example (a b : R) : (a + b) ^ 3 = a ^ 3 + 3 * a ^ 2 * b + 3 * a * b ^ 2 + b ^ 3 := by grind
theorem of_sub (p q : Rat) : of (p - q) = of p - of q := mk_ext fun n => by grind
theorem of_lt {p q : Rat} : of p < of q ↔ p < q := by
 rw [lt_def, ← of_sub]
 constructor
 ·rintro ⟨c, hc, N, h⟩
  have := h N (Nat.le_refl _)
  grind
 ·intro h
  exact ⟨q - p, by grind, 0, fun n _ => Rat.le_refl⟩
theorem of_le {p q : Rat} : of p ≤ of q ↔ p ≤ q := by
 rw [le_def, ← of_sub]
 constructor
 ·intro h
  apply Classical.byContradiction
  intro hn
  exact h ⟨p - q, by grind, 0, fun n _ => Rat.le_refl⟩
 ·rintro h ⟨c, hc, N, k⟩
  have := k N (Nat.le_refl _)
  grind
theorem of_inv (p : Rat) : of p⁻¹ = (of p)⁻¹ := by
 by_cases h : p = 0
 ·subst h; rw [Rat.inv_zero]; show (0 : R) = (0 : R)⁻¹; rw [inv_zero']
 ·have h1 : of p ≠ 0 := fun k => h (of_inj k)
  have h2 : of p * of p⁻¹ = 1 := by rw [← of_mul, Rat.mul_inv_cancel _ h]; rfl
  grind
theorem of_div (p q : Rat) : of (p / q) = of p / of q := by
 rw [Rat.div_def, of_mul, of_inv]; rfl
theorem of_pow (p : Rat) (n : Nat) : of (p ^ n) = of p ^ n := by
 induction n with
 | zero => rw [Rat.pow_zero]; rfl
 | succ n ih => rw [Rat.pow_succ, of_mul, ih]; rfl
theorem mul_nn {a b : R} (h : 0 ≤ a) (k : 0 ≤ b) : 0 ≤ a * b := by
 rcases pos_or a with e | e | e
 ·rw [e, zero_mul']; grind
 ·rcases pos_or b with f | f | f
  ·rw [f, mul_comm', zero_mul']; grind
  ·have : pos (a * b - 0) := by rw [show a * b - 0 = a * b by grind]; exact pos_mul' e f
   have : 0 < a * b := this
   grind
  ·exact absurd (show pos (0 - b) by rw [show 0 - b = -b by grind]; exact f) k
 ·exact absurd (show pos (0 - a) by rw [show 0 - a = -a by grind]; exact e) h
theorem mul_pos {a b : R} (h : 0 < a) (k : 0 < b) : 0 < a * b := by
 have := lt_mul h k
 grind
theorem sq_nn (a : R) : 0 ≤ a * a := by
 by_cases h : 0 ≤ a
 ·exact mul_nn h h
 ·have := mul_nn (a := -a) (b := -a) (by grind) (by grind)
  grind
theorem mul_le {a b c d : R} (h : a ≤ b) (k : c ≤ d) (ha : 0 ≤ a) (hd : 0 ≤ d) : a * c ≤ b * d := by
 have h1 := mul_nn (a := b - a) (b := d) (by grind) hd
 have h2 := mul_nn (a := a) (b := d - c) ha (by grind)
 grind
theorem mul_le_l {a b c : R} (h : a ≤ b) (hc : 0 ≤ c) : c * a ≤ c * b := by
 have h1 := mul_nn (a := b - a) (b := c) (by grind) hc
 grind
theorem inv_pos {a : R} (h : 0 < a) : 0 < a⁻¹ := by
 apply Classical.byContradiction
 intro hn
 have h1 : a * a⁻¹ = 1 := by grind
 have h2 := mul_nn (a := a) (b := -a⁻¹) (by grind) (by grind)
 grind
theorem div_pos {a b : R} (h : 0 < a) (k : 0 < b) : 0 < a / b := by
 have := mul_pos h (inv_pos k)
 grind
theorem le_of_mul {a b c : R} (h : c * a ≤ c * b) (hc : 0 < c) : a ≤ b := by
 apply Classical.byContradiction
 intro hn
 have := lt_mul (a := b) (b := a) (c := c) (by grind) hc
 grind
theorem div_le {a b c : R} (hb : 0 < b) : a / b ≤ c ↔ a ≤ c * b := by
 have e : a = (a / b) * b := by grind
 constructor
 ·intro h
  have := mul_nn (a := c - a / b) (b := b) (by grind) (by grind)
  grind
 ·intro h
  refine le_of_mul (c := b) ?_ hb
  grind
theorem le_div {a b c : R} (hb : 0 < b) : c ≤ a / b ↔ c * b ≤ a := by
 have e : a = (a / b) * b := by grind
 constructor
 ·intro h
  have := mul_nn (a := a / b - c) (b := b) (by grind) (by grind)
  grind
 ·intro h
  refine le_of_mul (c := b) ?_ hb
  grind
theorem mul_bd {a b A B : R} (a1 : -A ≤ a) (a2 : a ≤ A) (b1 : -B ≤ b) (b2 : b ≤ B) : -(A * B) ≤ a * b ∧ a * b ≤ A * B := by
 have h1 := mul_nn (a := A - a) (b := B + b) (by grind) (by grind)
 have h2 := mul_nn (a := A + a) (b := B - b) (by grind) (by grind)
 have h3 := mul_nn (a := A + a) (b := B + b) (by grind) (by grind)
 have h4 := mul_nn (a := A - a) (b := B - b) (by grind) (by grind)
 constructor <;> grind
theorem below (a : R) (h : 0 < a) : ∃ q : Rat, 0 < q ∧ of q ≤ a := by
 obtain ⟨f, hf, rfl⟩ := ex a
 have h : pos (mk f hf - 0) := h
 rw [show mk f hf - 0 = mk f hf by grind] at h
 obtain ⟨c, hc, N, hN⟩ := h
 refine ⟨c, hc, ?_⟩
 rintro ⟨d, hd, N2, h2⟩
 have a := hN (max N N2) (by omega)
 have b := h2 (max N N2) (by omega)
 have : d ≤ c + -f (max N N2) := b
 grind
theorem above (a : R) : ∃ n : Nat, a ≤ n := by
 obtain ⟨f, hf, rfl⟩ := ex a
 obtain ⟨B, hB, N, h⟩ := cau_bdd hf
 refine ⟨B.ceil.toNat, ?_⟩
 rintro ⟨d, hd, N2, h2⟩
 have a := h (max N N2) (by omega)
 have b := h2 (max N N2) (by omega)
 have b : d ≤ f (max N N2) + -((B.ceil.toNat : Nat) : Rat) := b
 have c : B ≤ (B.ceil : Rat) := Rat.le_ceil
 have e : (B.ceil : Rat) ≤ ((B.ceil.toNat : Nat) : Rat) := by
  rw [← Rat.intCast_natCast, Rat.intCast_le_intCast]
  omega
 grind
theorem near (a : R) (e : Rat) (he : 0 < e) : ∃ q : Rat, of q - of e ≤ a ∧ a ≤ of q + of e := by
 obtain ⟨f, hf, rfl⟩ := ex a
 obtain ⟨N, h⟩ := hf e he
 refine ⟨f N, ?_, ?_⟩
 ·rintro ⟨d, hd, N2, h2⟩
  have a := h N (max N N2) (by omega) (by omega)
  have b : d ≤ f N + -e + -f (max N N2) := h2 (max N N2) (by omega)
  grind
 ·rintro ⟨d, hd, N2, h2⟩
  have a := h (max N N2) N (by omega) (by omega)
  have b : d ≤ f (max N N2) + -(f N + e) := h2 (max N N2) (by omega)
  grind
theorem limit (x : Nat → R) (h : ∀ e : R, 0 < e → ∃ N : Nat, ∀ m n, N ≤ m → N ≤ n → x m - x n ≤ e) :
  ∃ l : R, ∀ e : R, 0 < e → ∃ N : Nat, ∀ n, N ≤ n → -e ≤ x n - l ∧ x n - l ≤ e := by
 have hq : ∀ k : Nat, ∃ q : Rat, of q - of (1 / ((k : Rat) + 1)) ≤ x k ∧ x k ≤ of q + of (1 / ((k : Rat) + 1)) := fun k =>
  near (x k) _ (by
   have : (0 : Rat) < (k : Rat) + 1 := by have := Rat.natCast_nonneg (a := k); grind
   have := Rat.inv_pos.2 this
   grind)
 let q : Nat → Rat := fun k => Classical.choose (hq k)
 have hk : ∀ k, of (q k) - of (1 / ((k : Rat) + 1)) ≤ x k ∧ x k ≤ of (q k) + of (1 / ((k : Rat) + 1)) := fun k => Classical.choose_spec (hq k)
 have small : ∀ e : Rat, 0 < e → ∃ N : Nat, ∀ n : Nat, N ≤ n → 1 / ((n : Rat) + 1) ≤ e := by
  intro e he
  refine ⟨(1 / e).ceil.toNat, fun n hn => ?_⟩
  have c : 1 / e ≤ ((1 / e).ceil : Rat) := Rat.le_ceil
  have d : ((1 / e).ceil : Rat) ≤ (n : Rat) := by
   rw [← Rat.intCast_natCast, Rat.intCast_le_intCast]
   omega
  have hp : (0 : Rat) < (n : Rat) + 1 := by have := Rat.natCast_nonneg (a := n); grind
  have h1 : e * (1 / e) = 1 := by grind
  have h2 : e * (1 / e) ≤ e * ((n : Rat) + 1) := Rat.mul_le_mul_of_nonneg_left (by grind) (by grind)
  have h3 : ((n : Rat) + 1) * (1 / ((n : Rat) + 1)) = 1 := by grind
  refine Rat.le_of_mul_le_mul_left (c := (n : Rat) + 1) ?_ hp
  grind
 have hc : Cau q := by
  intro e he
  obtain ⟨N1, h1⟩ := small (e / 4) (by grind)
  obtain ⟨N2, h2⟩ := h (of (e / 2)) (of_lt.2 (half_pos he))
  refine ⟨max N1 N2, fun m n hm hn => ?_⟩
  have a := hk m
  have b := hk n
  have c := h2 m n (by omega) (by omega)
  have dm := of_le.2 (h1 m (by omega))
  have dn := of_le.2 (h1 n (by omega))
  refine of_le.1 ?_
  rw [of_sub]
  have e1 : of e = of (e / 4) + of (e / 4) + of (e / 2) := by rw [← of_add, ← of_add]; congr 1; grind
  rw [e1]
  grind
 refine ⟨mk q hc, fun e he => ?_⟩
 obtain ⟨r, hr, hre⟩ := below e he
 obtain ⟨N1, h1⟩ := small (r / 2) (half_pos hr)
 obtain ⟨N2, h2⟩ := hc (r / 2) (half_pos hr)
 refine ⟨max N1 N2, fun n hn => ?_⟩
 have a := hk n
 have d := of_le.2 (h1 n (by omega))
 have l1 : of (q n) - of (r / 2) ≤ mk q hc := by
  rintro ⟨t, ht, N3, h3⟩
  have u : t ≤ q n + -(r / 2) + -q (max N2 N3) := h3 (max N2 N3) (by omega)
  have v := h2 n (max N2 N3) (by omega) (by omega)
  grind
 have l2 : mk q hc ≤ of (q n) + of (r / 2) := by
  rintro ⟨t, ht, N3, h3⟩
  have u : t ≤ q (max N2 N3) + -(q n + r / 2) := h3 (max N2 N3) (by omega)
  have v := h2 (max N2 N3) n (by omega) (by omega)
  grind
 have e1 : of r = of (r / 2) + of (r / 2) := by rw [← of_add]; congr 1; grind
 rw [e1] at hre
 constructor <;> grind
end R
end Go.Rl
/- Bounds, halving, slopes. -/
set_option linter.unusedVariables false
namespace Go.Rl
open R
def Bd (x c : R) : Prop := -c ≤ x ∧ x ≤ c
open Classical in
noncomputable def ab (x : R) : R := if 0 ≤ x then x else -x
theorem ab_nn (x : R) : 0 ≤ ab x := by unfold ab; split <;> grind
theorem bd_self (x : R) : Bd x (ab x) := by unfold ab Bd; split <;> grind
theorem Bd.nn {x c : R} (h : Bd x c) : 0 ≤ c := by unfold Bd at h; grind
theorem Bd.mono {x c d : R} (h : Bd x c) (k : c ≤ d) : Bd x d := by unfold Bd at *; grind
theorem Bd.add {x y c d : R} (h : Bd x c) (k : Bd y d) : Bd (x + y) (c + d) := by unfold Bd at *; grind
theorem Bd.sub {x y c d : R} (h : Bd x c) (k : Bd y d) : Bd (x - y) (c + d) := by unfold Bd at *; grind
theorem Bd.neg {x c : R} (h : Bd x c) : Bd (-x) c := by unfold Bd at *; grind
theorem Bd.mul {x y c d : R} (h : Bd x c) (k : Bd y d) : Bd (x * y) (c * d) := R.mul_bd h.1 h.2 k.1 k.2
theorem Bd.of {x y c d : R} (h : Bd x c) (e : y = x) (k : c ≤ d) : Bd y d := by subst e; exact h.mono k
theorem bd_zero {c : R} (h : 0 ≤ c) : Bd 0 c := by unfold Bd; grind
theorem bd_sq1 {h : R} (k : Bd h 1) : Bd (h * h) 1 := by have := k.mul k; exact this.mono (by grind)
theorem bd_pos {x : R} (h : 0 ≤ x) : Bd x x := by unfold Bd; grind
theorem bd_all {x : R} (h : ∀ e : R, 0 < e → Bd x e) : x = 0 := by
 apply Classical.byContradiction
 intro hn
 by_cases hp : 0 < x
 ·have := h (x / 2) (by grind)
  unfold Bd at this
  grind
 ·have := h (-x / 2) (by grind)
  unfold Bd at this
  grind
theorem le_all {x y : R} (h : ∀ e : R, 0 < e → x ≤ y + e) : x ≤ y := by
 apply Classical.byContradiction
 intro hn
 have := h ((x - y) / 2) (by grind)
 grind
open Classical in
noncomputable def mn (x y : R) : R := if x ≤ y then x else y
theorem mn_l (x y : R) : mn x y ≤ x := by unfold mn; split <;> grind
theorem mn_r (x y : R) : mn x y ≤ y := by unfold mn; split <;> grind
theorem mn_pos {x y : R} (h : 0 < x) (k : 0 < y) : 0 < mn x y := by unfold mn; split <;> grind
noncomputable def hp (n : Nat) : R := (1 / 2 : R) ^ n
theorem hp_zero : hp 0 = 1 := rfl
theorem hp_succ (n : Nat) : hp (n + 1) = hp n / 2 := by
 show (1 / 2 : R) ^ (n + 1) = (1 / 2 : R) ^ n / 2
 rw [R.pow_succ']; grind
theorem hp_pos (n : Nat) : 0 < hp n := by
 induction n with
 | zero => rw [hp_zero]; grind
 | succ n ih => rw [hp_succ]; grind
theorem cast_succ (n : Nat) : ((n + 1 : Nat) : R) = (n : R) + 1 := by
 show of ((n + 1 : Nat) : Rat) = of (n : Rat) + of ((1 : Nat) : Rat)
 rw [← of_add, Rat.natCast_add]
theorem cast_nn (n : Nat) : 0 ≤ (n : R) := by
 show of ((0 : Nat) : Rat) ≤ of (n : Rat)
 rw [of_le]
 exact Rat.natCast_nonneg
theorem cast_le {m n : Nat} (h : m ≤ n) : (m : R) ≤ (n : R) := by
 show of (m : Rat) ≤ of (n : Rat)
 rw [of_le]
 exact Rat.natCast_le_natCast.2 h
theorem hp_small (n : Nat) : hp n * ((n : R) + 1) ≤ 1 := by
 induction n with
 | zero => rw [hp_zero]; show (1 : R) * ((0 : R) + 1) ≤ 1; grind
 | succ n ih =>
  rw [hp_succ, cast_succ]
  have h1 := hp_pos n
  have h2 := cast_nn n
  have h3 := mul_nn (a := hp n) (b := (n : R)) (by grind) h2
  grind
theorem hp_lt (e : R) (he : 0 < e) (c : R) : ∃ N : Nat, ∀ n, N ≤ n → c * hp n ≤ e := by
 obtain ⟨N, hN⟩ := above (c / e)
 refine ⟨N, fun n hn => ?_⟩
 have h1 := hp_small n
 have h2 := cast_le hn
 have h3 := hp_pos n
 have h4 : c ≤ e * (n : R) := by
  have : c / e ≤ (n : R) := by grind
  rw [R.div_le he] at this
  grind
 have h5 := mul_nn (a := e * (n : R) - c) (b := hp n) (by grind) (by grind)
 have h6 := mul_nn (a := e) (b := 1 - hp n * ((n : R) + 1)) (by grind) (by grind)
 have h7 := mul_nn (a := e) (b := hp n) (by grind) (by grind)
 grind
open Classical in
noncomputable def lowEnd (P : R → R → Prop) (a w : R) : Nat → R
 | 0 => a
 | n + 1 => if P (lowEnd P a w n) (lowEnd P a w n + w * hp (n + 1)) then lowEnd P a w n else lowEnd P a w n + w * hp (n + 1)
theorem bisect (P : R → R → Prop) (hP : ∀ a m b, a ≤ m → m ≤ b → P a b → P a m ∨ P m b) {a b : R} (hab : a ≤ b) (h0 : P a b) :
  ∃ c, a ≤ c ∧ c ≤ b ∧ ∀ d : R, 0 < d → ∃ u v, a ≤ u ∧ u ≤ c ∧ c ≤ v ∧ v ≤ b ∧ v - u ≤ d ∧ P u v := by
 have hw : 0 ≤ b - a := by grind
 generalize hu : lowEnd P a (b - a) = u
 have u0 : u 0 = a := by rw [← hu]; rfl
 have hwn : ∀ n, 0 ≤ (b - a) * hp n := fun n => mul_nn hw (by have := hp_pos n; grind)
 have us : ∀ n, u (n + 1) = u n ∧ P (u n) (u n + (b - a) * hp (n + 1)) ∨ u (n + 1) = u n + (b - a) * hp (n + 1) ∧ ¬ P (u n) (u n + (b - a) * hp (n + 1)) := by
  intro n
  rw [← hu]
  simp only [lowEnd]
  split
  ·exact .inl ⟨rfl, by assumption⟩
  ·exact .inr ⟨rfl, by assumption⟩
 have inv : ∀ n, P (u n) (u n + (b - a) * hp n) ∧ a ≤ u n ∧ u n + (b - a) * hp n ≤ b := by
  intro n
  induction n with
  | zero =>
   rw [u0, hp_zero]
   refine ⟨?_, by grind, by grind⟩
   rw [show a + (b - a) * 1 = b by grind]
   exact h0
  | succ n ih =>
   obtain ⟨i1, i2, i3⟩ := ih
   have hs := hp_succ n
   have hn := hwn n
   have hn1 := hwn (n + 1)
   have e2 : (b - a) * hp n = (b - a) * hp (n + 1) + (b - a) * hp (n + 1) := by rw [hs]; grind
   rcases us n with ⟨e, p⟩ | ⟨e, p⟩
   ·rw [e]
    exact ⟨p, i2, by grind⟩
   ·rw [e]
    refine ⟨?_, by grind, by grind⟩
    rcases hP (u n) (u n + (b - a) * hp (n + 1)) (u n + (b - a) * hp n) (by grind) (by grind) i1 with q | q
    ·exact absurd q p
    ·rw [show u n + (b - a) * hp (n + 1) + (b - a) * hp (n + 1) = u n + (b - a) * hp n by grind]
     exact q
 have step : ∀ n, u n ≤ u (n + 1) ∧ u (n + 1) + (b - a) * hp (n + 1) ≤ u n + (b - a) * hp n := by
  intro n
  have hs := hp_succ n
  have hn1 := hwn (n + 1)
  have e2 : (b - a) * hp n = (b - a) * hp (n + 1) + (b - a) * hp (n + 1) := by rw [hs]; grind
  rcases us n with ⟨e, p⟩ | ⟨e, p⟩ <;> rw [e] <;> constructor <;> grind
 have mono : ∀ k n, u n ≤ u (n + k) ∧ u (n + k) + (b - a) * hp (n + k) ≤ u n + (b - a) * hp n := by
  intro k
  induction k with
  | zero => intro n; rw [Nat.add_zero]; constructor <;> grind
  | succ k ih =>
   intro n
   have h1 := ih n
   have h2 := step (n + k)
   rw [show n + (k + 1) = n + k + 1 by omega]
   constructor <;> grind
 have mono2 : ∀ m n, n ≤ m → u n ≤ u m ∧ u m + (b - a) * hp m ≤ u n + (b - a) * hp n := fun m n h => by
  have := mono (m - n) n
  rwa [show n + (m - n) = m by omega] at this
 obtain ⟨c, hc⟩ := R.limit u fun e he => by
  obtain ⟨N, hN⟩ := hp_lt e he (b - a)
  refine ⟨N, fun m n hm hn => ?_⟩
  have h1 := mono2 m N hm
  have h2 := mono2 n N hn
  have h3 := hN N (Nat.le_refl _)
  have h4 := hwn m
  grind
 have cl : ∀ n, u n ≤ c := fun n => le_all fun e he => by
  obtain ⟨N, hN⟩ := hc e he
  have h1 := hN (max N n) (by omega)
  have h2 := mono2 (max N n) n (by omega)
  grind
 have cu : ∀ n, c ≤ u n + (b - a) * hp n := fun n => le_all fun e he => by
  obtain ⟨N, hN⟩ := hc e he
  have h1 := hN (max N n) (by omega)
  have h2 := mono2 (max N n) n (by omega)
  have h3 := hwn (max N n)
  grind
 refine ⟨c, ?_, ?_, fun d hd => ?_⟩
 ·have := cl 0
  rwa [u0] at this
 ·have := cu 0
  rw [u0, hp_zero] at this
  grind
 ·obtain ⟨N, hN⟩ := hp_lt d hd (b - a)
  have h1 := inv N
  have h2 := hN N (Nat.le_refl _)
  exact ⟨u N, u N + (b - a) * hp N, h1.2.1, cl N, cu N, h1.2.2, by grind, h1.1⟩
def Der (f : R → R) (d x : R) : Prop := ∃ K δ : R, 0 ≤ K ∧ 0 < δ ∧ ∀ h, Bd h δ → Bd (f (x + h) - f x - d * h) (K * (h * h))
theorem Der.congr {f g : R → R} {d e x : R} (h : Der f d x) (hf : ∀ y, g y = f y) (he : e = d) : Der g e x := by
 obtain ⟨K, δ, h1, h2, h3⟩ := h
 exact ⟨K, δ, h1, h2, fun t ht => by rw [hf, hf, he]; exact h3 t ht⟩
theorem Der.to {f : R → R} {d e x : R} (h : Der f d x) (he : e = d) : Der f e x := h.congr (fun _ => rfl) he
theorem der_const (c x : R) : Der (fun _ => c) 0 x := ⟨0, 1, by grind, by grind, fun h _ => (bd_zero (c := 0 * (h * h)) (by grind)).of (by grind) (by grind)⟩
theorem der_id (x : R) : Der (fun y => y) 1 x := ⟨0, 1, by grind, by grind, fun h _ => (bd_zero (c := 0 * (h * h)) (by grind)).of (by grind) (by grind)⟩
theorem Der.add {f g : R → R} {d e x : R} (hf : Der f d x) (hg : Der g e x) : Der (fun y => f y + g y) (d + e) x := by
 obtain ⟨K, δ, h1, h2, h3⟩ := hf
 obtain ⟨L, η, k1, k2, k3⟩ := hg
 refine ⟨K + L, mn δ η, by grind, mn_pos h2 k2, fun h hh => ?_⟩
 have a := h3 h (hh.mono (mn_l _ _))
 have b := k3 h (hh.mono (mn_r _ _))
 exact (a.add b).of (by grind) (by grind)
theorem Der.neg {f : R → R} {d x : R} (hf : Der f d x) : Der (fun y => -f y) (-d) x := by
 obtain ⟨K, δ, h1, h2, h3⟩ := hf
 exact ⟨K, δ, h1, h2, fun h hh => (h3 h hh).neg.of (by grind) (by grind)⟩
theorem Der.sub {f g : R → R} {d e x : R} (hf : Der f d x) (hg : Der g e x) : Der (fun y => f y - g y) (d - e) x :=
 (hf.add hg.neg).congr (fun y => by grind) (by grind)
theorem Der.mul {f g : R → R} {d e x : R} (hf : Der f d x) (hg : Der g e x) : Der (fun y => f y * g y) (d * g x + f x * e) x := by
 obtain ⟨K, δ, h1, h2, h3⟩ := hf
 obtain ⟨L, η, k1, k2, k3⟩ := hg
 have n1 := ab_nn (f x); have n2 := ab_nn (g x); have n3 := ab_nn d; have n4 := ab_nn e
 refine ⟨ab (f x) * L + ab d * ab e + ab d * L + K * ab (g x) + K * ab e + K * L, mn 1 (mn δ η), ?_, mn_pos (by grind) (mn_pos h2 k2), fun h hh => ?_⟩
 ·have a1 := mul_nn n1 k1; have a2 := mul_nn n3 n4; have a3 := mul_nn n3 k1; have a4 := mul_nn h1 n2; have a5 := mul_nn h1 n4; have a6 := mul_nn h1 k1
  grind
 ·have hd := hh.mono (mn_l _ _)
  have a := h3 h (hh.mono (by have := mn_r 1 (mn δ η); have := mn_l δ η; grind))
  have b := k3 h (hh.mono (by have := mn_r 1 (mn δ η); have := mn_r δ η; grind))
  have sq := sq_nn h
  have a' : Bd (f (x + h) - f x - d * h) K := a.mono (by have := mul_nn h1 (b := 1 - h * h) (by have := (bd_sq1 hd).2; grind); grind)
  have t1 := (bd_self (f x)).mul b
  have t2 := ((bd_self d).mul (bd_self e)).mul (bd_pos sq)
  have t3 := ((bd_self d).mul hd).mul b
  have t4 := a.mul (bd_self (g x))
  have t5 := (a.mul (bd_self e)).mul hd
  have t6 := a'.mul b
  exact (((((t1.add t2).add t3).add t4).add t5).add t6).of (by grind) (by grind)
theorem Der.smul {f : R → R} {d x : R} (c : R) (hf : Der f d x) : Der (fun y => c * f y) (c * d) x :=
 ((der_const c x).mul hf).to (by grind)
theorem Der.comp {f g : R → R} {d e x : R} (hf : Der f d (g x)) (hg : Der g e x) : Der (fun y => f (g y)) (d * e) x := by
 obtain ⟨K, δ, h1, h2, h3⟩ := hf
 obtain ⟨L, η, k1, k2, k3⟩ := hg
 have n3 := ab_nn d; have n4 := ab_nn e
 have hq : 0 < ab e + L + 1 := by grind
 refine ⟨K * (ab e * ab e + 2 * ab e * L + L * L) + ab d * L, mn 1 (mn η (δ / (ab e + L + 1))), ?_, mn_pos (by grind) (mn_pos k2 (R.div_pos h2 hq)), fun h hh => ?_⟩
 ·have a1 := mul_nn n4 n4; have a2 := mul_nn n4 k1; have a3 := mul_nn k1 k1; have a4 := mul_nn n3 k1
  have := mul_nn h1 (b := ab e * ab e + 2 * ab e * L + L * L) (by grind)
  grind
 ·have hd := hh.mono (mn_l _ _)
  have hdd : Bd h (δ / (ab e + L + 1)) := hh.mono (by have := mn_r 1 (mn η (δ / (ab e + L + 1))); have := mn_r η (δ / (ab e + L + 1)); grind)
  have b := k3 h (hh.mono (by have := mn_r 1 (mn η (δ / (ab e + L + 1))); have := mn_l η (δ / (ab e + L + 1)); grind))
  have sq := sq_nn h
  generalize hB : g (x + h) - g x - e * h = B at b
  have hs : g (x + h) = g x + (e * h + B) := by grind
  have b1 : Bd B (L * (δ / (ab e + L + 1))) := b.mono (by
   have := (hd.mul hdd).2
   have := mul_le_l this k1
   grind)
  have bs : Bd (e * h + B) δ := (((bd_self e).mul hdd).add b1).mono (by
   have q : (δ / (ab e + L + 1)) * (ab e + L + 1) = δ := by grind
   have := R.div_pos h2 hq
   grind)
  have a := h3 _ bs
  rw [← hs] at a
  have b' : Bd B L := b.mono (by have := mul_nn k1 (b := 1 - h * h) (by have := (bd_sq1 hd).2; grind); grind)
  have t1 := ((bd_self e).mul (bd_self e)).mul (bd_pos sq)
  have t2 := ((bd_self e).mul hd).mul b
  have t3 := b'.mul b
  have s2 : (e * h + B) * (e * h + B) ≤ (ab e * ab e + 2 * ab e * L + L * L) * (h * h) := by
   have := (((t1.add t2).add t2).add t3).2
   grind
  have a2 := a.mono (mul_le_l s2 h1)
  have t4 := (bd_self d).mul b
  exact (a2.add t4).of (by grind) (by grind)
theorem mono {f f' : R → R} {a b : R} (hab : a ≤ b) (hd : ∀ x, a ≤ x → x ≤ b → Der f (f' x) x) (hp : ∀ x, a ≤ x → x ≤ b → 0 ≤ f' x) : f a ≤ f b := by
 apply Classical.byContradiction
 intro hn
 have hlt : a < b := by
  apply Classical.byContradiction
  intro h
  have : a = b := by grind
  subst this
  grind
 have h0 : 0 < b - a := by grind
 have hη : 0 < (f a - f b) / (b - a) := R.div_pos (by grind) h0
 have eη : (f a - f b) / (b - a) * (b - a) = f a - f b := by grind
 generalize (f a - f b) / (b - a) = η at hη eη
 obtain ⟨c, c1, c2, hc⟩ := bisect (fun u v => η * (v - u) ≤ f u - f v ∧ u < v) (fun u m v h1 h2 h => by
  by_cases e1 : u = m
  ·subst e1; exact .inr h
  ·by_cases e2 : m = v
   ·subst e2; exact .inl h
   ·by_cases e3 : η * (m - u) ≤ f u - f m
    ·exact .inl ⟨e3, by grind⟩
    ·refine .inr ⟨?_, by grind⟩
     have := h.1
     grind) hab ⟨by grind, hlt⟩
 obtain ⟨K, δ, k1, k2, k3⟩ := hd c c1 c2
 have hs := hp c c1 c2
 obtain ⟨u, v, u1, u2, v1, v2, w, p1, p2⟩ := hc (mn δ (η / (2 * (K + 1)))) (mn_pos k2 (R.div_pos hη (by grind)))
 have w1 : v - u ≤ δ := by have := mn_l δ (η / (2 * (K + 1))); grind
 have w2 : v - u ≤ η / (2 * (K + 1)) := by have := mn_r δ (η / (2 * (K + 1))); grind
 rw [R.le_div (by grind)] at w2
 have a1 := k3 (u - c) (by unfold Bd; grind)
 have a2 := k3 (v - c) (by unfold Bd; grind)
 rw [show c + (u - c) = u by grind] at a1
 rw [show c + (v - c) = v by grind] at a2
 have b1 := mul_nn hs (b := v - u) (by grind)
 have q1 : (u - c) * (u - c) ≤ (v - u) * (c - u) := by
  have := mul_nn (a := v - c) (b := c - u) (by grind) (by grind)
  grind
 have q2 : (v - c) * (v - c) ≤ (v - u) * (v - c) := by
  have := mul_nn (a := c - u) (b := v - c) (by grind) (by grind)
  grind
 have q3 := mul_le_l q1 k1
 have q4 := mul_le_l q2 k1
 have q5 := mul_nn (a := v - u) (b := η - (v - u) * (2 * (K + 1))) (by grind) (by grind)
 have q6 := mul_nn (a := v - u) (b := v - u) (by grind) (by grind)
 have q7 := mul_nn (a := v - u) (b := η) (by grind) (by grind)
 have q8 := R.lt_mul (c := η) (a := 0) (b := v - u) (by grind) hη
 unfold Bd at a1 a2
 grind
theorem const_of {f : R → R} {a b : R} (hab : a ≤ b) (hd : ∀ x, a ≤ x → x ≤ b → Der f 0 x) : f a = f b := by
 have h1 := mono (f := f) (f' := fun _ => 0) hab hd (fun _ _ _ => by grind)
 have h2 := mono (f := fun y => -f y) (f' := fun _ => 0) hab (fun x h k => (hd x h k).neg.to (by grind)) (fun _ _ _ => by grind)
 grind
theorem const_all {f : R → R} (hd : ∀ x, Der f 0 x) (a b : R) : f a = f b := by
 by_cases h : a ≤ b
 ·exact const_of h fun x _ _ => hd x
 ·exact (const_of (a := b) (b := a) (by grind) fun x _ _ => hd x).symm
def Cont (f : R → R) (x : R) : Prop := ∀ e : R, 0 < e → ∃ δ : R, 0 < δ ∧ ∀ h, Bd h δ → Bd (f (x + h) - f x) e
theorem Der.cont {f : R → R} {d x : R} (hf : Der f d x) : Cont f x := by
 obtain ⟨K, δ, h1, h2, h3⟩ := hf
 intro e he
 have n := ab_nn d
 refine ⟨mn 1 (mn δ (e / (ab d + K + 1))), mn_pos (by grind) (mn_pos h2 (R.div_pos he (by grind))), fun h hh => ?_⟩
 have hd := hh.mono (mn_l _ _)
 have hdd : Bd h (e / (ab d + K + 1)) := hh.mono (by have := mn_r 1 (mn δ (e / (ab d + K + 1))); have := mn_r δ (e / (ab d + K + 1)); grind)
 have a := h3 h (hh.mono (by have := mn_r 1 (mn δ (e / (ab d + K + 1))); have := mn_l δ (e / (ab d + K + 1)); grind))
 have q : (e / (ab d + K + 1)) * (ab d + K + 1) = e := by grind
 have p := R.div_pos he (b := ab d + K + 1) (by grind)
 have a2 := a.mono (d := K * (e / (ab d + K + 1))) (by
  have := (hd.mul hdd).2
  have := mul_le_l this h1
  grind)
 exact (a2.add ((bd_self d).mul hdd)).of (by grind) (by grind)
theorem ivt {f : R → R} {a b : R} (hab : a ≤ b) (hc : ∀ x, a ≤ x → x ≤ b → Cont f x) (h1 : f a ≤ 0) (h2 : 0 ≤ f b) : ∃ c, a ≤ c ∧ c ≤ b ∧ f c = 0 := by
 obtain ⟨c, c1, c2, h⟩ := bisect (fun u v => f u ≤ 0 ∧ 0 ≤ f v) (fun u m v _ _ k => by
  by_cases e : f m ≤ 0
  ·exact .inr ⟨e, k.2⟩
  ·exact .inl ⟨k.1, by grind⟩) hab ⟨h1, h2⟩
 refine ⟨c, c1, c2, bd_all fun e he => ?_⟩
 obtain ⟨δ, d1, d2⟩ := hc c c1 c2 e he
 obtain ⟨u, v, u1, u2, v1, v2, w, p1, p2⟩ := h δ d1
 have a1 := d2 (u - c) (by unfold Bd; grind)
 have a2 := d2 (v - c) (by unfold Bd; grind)
 rw [show c + (u - c) = u by grind] at a1
 rw [show c + (v - c) = v by grind] at a2
 unfold Bd at *
 grind
end Go.Rl
/- Power series: the exponential, the sine and the cosine. -/
set_option linter.unusedVariables false
namespace Go.Rl
open R
noncomputable def fi : Nat → R
 | 0 => 1
 | k + 1 => fi k / ((k : R) + 1)
noncomputable def psum (a : Nat → R) (x : R) : Nat → R
 | 0 => 0
 | n + 1 => psum a x n + a n * (fi n * x ^ n)
noncomputable def tm (X : R) (k : Nat) : R := fi k * X ^ k
theorem fi_succ (k : Nat) : fi (k + 1) * ((k : R) + 1) = fi k := by
 have := cast_nn k
 show fi k / ((k : R) + 1) * ((k : R) + 1) = fi k
 have h : (k : R) + 1 ≠ 0 := by grind
 grind
theorem fi_pos (k : Nat) : 0 < fi k := by
 induction k with
 | zero => show (0 : R) < 1; grind
 | succ k ih => exact R.div_pos ih (by have := cast_nn k; grind)
theorem pow_s (x : R) (n : Nat) : x ^ (n + 1) = x ^ n * x := rfl
theorem pow_nn {X : R} (h : 0 ≤ X) (n : Nat) : 0 ≤ X ^ n := by
 induction n with
 | zero => show (0 : R) ≤ 1; grind
 | succ n ih => rw [pow_s]; exact mul_nn ih h
theorem bd_pow {x X : R} (h : Bd x X) (n : Nat) : Bd (x ^ n) (X ^ n) := by
 induction n with
 | zero => show Bd 1 1; unfold Bd; grind
 | succ n ih => rw [pow_s, pow_s]; exact ih.mul h
theorem tm_nn {X : R} (h : 0 ≤ X) (k : Nat) : 0 ≤ tm X k := mul_nn (by have := fi_pos k; grind) (pow_nn h k)
theorem tm_succ (X : R) (k : Nat) : tm X (k + 1) * ((k : R) + 1) = tm X k * X := by
 unfold tm
 rw [pow_s]
 have := fi_succ k
 grind
theorem tm_half {X : R} (h : 0 ≤ X) {M k : Nat} (hM : X ≤ (M : R)) (hk : 2 * M ≤ k) : tm X (k + 1) ≤ tm X k / 2 := by
 have h1 := cast_le hk
 have h2 : ((2 * M : Nat) : R) = 2 * (M : R) := by
  show of ((2 * M : Nat) : Rat) = of ((2 : Nat) : Rat) * of (M : Rat)
  rw [← of_mul, Rat.natCast_mul]
 have h3 := tm_succ X k
 have h4 := tm_nn h k
 have h5 := tm_nn h (k + 1)
 have h6 := mul_nn h4 (b := (k : R) / 2 - X) (by grind)
 refine le_of_mul (c := (k : R) + 1) ?_ (by have := cast_nn k; grind)
 grind
theorem bd_term {a : Nat → R} (ha : ∀ k, Bd (a k) 1) {x X : R} (hx : Bd x X) (k : Nat) : Bd (a k * (fi k * x ^ k)) (tm X k) := by
 have h1 := (ha k).mul ((bd_pos (x := fi k) (by have := fi_pos k; grind)).mul (bd_pow hx k))
 exact h1.mono (by unfold tm; grind)
theorem tail {a : Nat → R} (ha : ∀ k, Bd (a k) 1) {x X : R} (hx : Bd x X) {M n : Nat} (hM : X ≤ (M : R)) (hn : 2 * M ≤ n) (j : Nat) :
  Bd (psum a x (n + j) - psum a x n) (2 * tm X n - 2 * tm X (n + j)) := by
 induction j with
 | zero => simp only [Nat.add_zero]; unfold Bd; grind
 | succ j ih =>
  have h1 := bd_term ha hx (n + j)
  have h2 := tm_half hx.nn hM (k := n + j) (by omega)
  rw [show n + (j + 1) = n + j + 1 by omega]
  simp only [psum]
  exact (ih.add h1).of (by grind) (by grind)
theorem tm_lt {X : R} (h : 0 ≤ X) {M : Nat} (hM : X ≤ (M : R)) (j : Nat) : tm X (2 * M + j) ≤ tm X (2 * M) * hp j := by
 induction j with
 | zero => rw [hp_zero, Nat.add_zero]; grind
 | succ j ih =>
  have := tm_half h hM (k := 2 * M + j) (by omega)
  rw [hp_succ, show 2 * M + (j + 1) = 2 * M + j + 1 by omega]
  grind
theorem tm_small {X : R} (h : 0 ≤ X) (e : R) (he : 0 < e) : ∃ N : Nat, ∀ n, N ≤ n → tm X n ≤ e := by
 obtain ⟨M, hM⟩ := above X
 obtain ⟨N, hN⟩ := hp_lt e he (tm X (2 * M))
 refine ⟨2 * M + N, fun n hn => ?_⟩
 have h1 := tm_lt h hM (n - 2 * M)
 have h2 := hN (n - 2 * M) (by omega)
 rw [show 2 * M + (n - 2 * M) = n by omega] at h1
 grind
theorem ser_ex {a : Nat → R} (ha : ∀ k, Bd (a k) 1) (x : R) : ∃ l : R, ∀ e : R, 0 < e → ∃ N : Nat, ∀ n, N ≤ n → -e ≤ psum a x n - l ∧ psum a x n - l ≤ e := by
 refine R.limit _ fun e he => ?_
 have hX := bd_self x
 obtain ⟨M, hM⟩ := above (ab x)
 obtain ⟨N, hN⟩ := tm_small hX.nn (e / 4) (by grind)
 refine ⟨max N (2 * M), fun m n hm hn => ?_⟩
 have t1 := tail ha hX hM (n := max N (2 * M)) (by omega) (m - max N (2 * M))
 have t2 := tail ha hX hM (n := max N (2 * M)) (by omega) (n - max N (2 * M))
 rw [show max N (2 * M) + (m - max N (2 * M)) = m by omega] at t1
 rw [show max N (2 * M) + (n - max N (2 * M)) = n by omega] at t2
 have s := hN (max N (2 * M)) (by omega)
 have n1 := tm_nn hX.nn m
 have n2 := tm_nn hX.nn n
 unfold Bd at t1 t2
 grind
noncomputable def ser (a : Nat → R) (ha : ∀ k, Bd (a k) 1) (x : R) : R := Classical.choose (ser_ex ha x)
theorem ser_lim {a : Nat → R} (ha : ∀ k, Bd (a k) 1) (x : R) (e : R) (he : 0 < e) : ∃ N : Nat, ∀ n, N ≤ n → Bd (psum a x n - ser a ha x) e := by
 obtain ⟨N, hN⟩ := Classical.choose_spec (ser_ex ha x) e he
 exact ⟨N, fun n hn => hN n hn⟩
theorem ser_tail {a : Nat → R} (ha : ∀ k, Bd (a k) 1) {x X : R} (hx : Bd x X) {M n : Nat} (hM : X ≤ (M : R)) (hn : 2 * M ≤ n) : Bd (ser a ha x - psum a x n) (2 * tm X n) := by
 have key : ∀ e : R, 0 < e → Bd (ser a ha x - psum a x n) (2 * tm X n + e) := by
  intro e he
  obtain ⟨N, hN⟩ := ser_lim ha x e he
  have h1 := hN (max N n) (by omega)
  have h2 := tail ha hx hM hn (max N n - n)
  rw [show n + (max N n - n) = max N n by omega] at h2
  have h3 := tm_nn hx.nn (max N n)
  unfold Bd at *
  grind
 constructor
 ·have := le_all (x := psum a x n - ser a ha x) (y := 2 * tm X n) fun e he => by have := key e he; unfold Bd at this; grind
  grind
 ·exact le_all fun e he => (key e he).2
theorem ser_eq {a b : Nat → R} (ha : ∀ k, Bd (a k) 1) (hb : ∀ k, Bd (b k) 1) {x y c : R} (h : ∀ n, psum b y n = c * psum a x n) : ser b hb y = c * ser a ha x := by
 have key : ∀ e : R, 0 < e → Bd (ser b hb y - c * ser a ha x) e := by
  intro e he
  have nn := ab_nn c
  obtain ⟨N1, h1⟩ := ser_lim hb y (e / 2) (by grind)
  obtain ⟨N2, h2⟩ := ser_lim ha x (e / (2 * (ab c + 1))) (R.div_pos he (by grind))
  have a1 := h1 (max N1 N2) (by omega)
  have a2 := h2 (max N1 N2) (by omega)
  rw [h] at a1
  have a3 := (bd_self c).mul a2
  have q : (e / (2 * (ab c + 1))) * (2 * (ab c + 1)) = e := by grind
  have p := R.div_pos he (b := 2 * (ab c + 1)) (by grind)
  exact (a3.sub a1).of (by grind) (by grind)
 have := bd_all key
 grind
theorem psum_zero (a : Nat → R) (n : Nat) : psum a 0 (n + 1) = a 0 := by
 induction n with
 | zero => show (0 : R) + a 0 * (1 * 1) = a 0; grind
 | succ n ih =>
  rw [show psum a 0 (n + 1 + 1) = psum a 0 (n + 1) + a (n + 1) * (fi (n + 1) * 0 ^ (n + 1)) from rfl, ih, pow_s]
  grind
theorem ser_zero {a : Nat → R} (ha : ∀ k, Bd (a k) 1) : ser a ha 0 = a 0 := by
 have key : ∀ e : R, 0 < e → Bd (a 0 - ser a ha 0) e := by
  intro e he
  obtain ⟨N, hN⟩ := ser_lim ha 0 e he
  have := hN (N + 1) (by omega)
  rwa [psum_zero] at this
 have := bd_all key
 grind
noncomputable def dpw (x : R) : Nat → R
 | 0 => 0
 | k + 1 => ((k : R) + 1) * x ^ k
theorem x_dpw (x : R) (k : Nat) : x * dpw x k = (k : R) * x ^ k := by
 cases k with
 | zero => show x * 0 = (0 : R) * x ^ 0; grind
 | succ k => simp only [dpw, cast_succ, pow_s]; grind
theorem bd_dpw {x Y : R} (h : Bd x Y) (h1 : 1 ≤ Y) (k : Nat) : Bd (dpw x k) ((k : R) * Y ^ k) := by
 cases k with
 | zero => show Bd 0 ((0 : R) * 1); unfold Bd; grind
 | succ k =>
  simp only [dpw, cast_succ, pow_s]
  have nk := cast_nn k
  have := (bd_pos (x := (k : R) + 1) (by grind)).mul (bd_pow h k)
  refine this.mono ?_
  have p := pow_nn (X := Y) (by grind) k
  have q := mul_nn (mul_nn (a := (k : R) + 1) (b := Y ^ k) (by grind) p) (b := Y - 1) (by grind)
  grind
theorem pow_der {x h Y : R} (hx : Bd x Y) (hxh : Bd (x + h) Y) (h1 : 1 ≤ Y) (k : Nat) : Bd ((x + h) ^ k - x ^ k - dpw x k * h) ((k : R) * (k : R) * Y ^ k * (h * h)) := by
 induction k with
 | zero => show Bd ((1 : R) - 1 - 0 * h) ((0 : R) * (0 : R) * 1 * (h * h)); unfold Bd; grind
 | succ k ih =>
  have sq := sq_nn h
  have a := hxh.mul ih
  have b := (bd_dpw hx h1 k).mul (bd_pos sq)
  have nk := cast_nn k
  have p := pow_nn (X := Y) (by grind) k
  have e : (x + h) ^ (k + 1) - x ^ (k + 1) - dpw x (k + 1) * h = (x + h) * ((x + h) ^ k - x ^ k - dpw x k * h) + dpw x k * (h * h) := by
   have := x_dpw x k
   rw [pow_s, pow_s, show dpw x (k + 1) = ((k : R) + 1) * x ^ k from rfl]
   generalize dpw x k = D at *
   grind
  refine (a.add b).of e ?_
  rw [pow_s, cast_succ]
  have q1 := mul_nn (mul_nn (mul_nn nk p) sq) (b := Y - 1) (by grind)
  have q2 := mul_nn (mul_nn (mul_nn nk p) sq) (b := Y) (by grind)
  have q3 := mul_nn (mul_nn p sq) (b := Y) (by grind)
  grind
theorem sq_four (k : Nat) : (k : R) * (k : R) ≤ (4 : R) ^ k := by
 have : ∀ k : Nat, (k : R) * (k : R) ≤ (4 : R) ^ k ∧ (1 : R) ≤ (4 : R) ^ k := by
  intro k
  induction k with
  | zero => show (0 : R) * 0 ≤ 1 ∧ (1 : R) ≤ 1; grind
  | succ k ih =>
   rw [pow_s, cast_succ]
   have nk := cast_nn k
   have h2 : 2 * (k : R) ≤ 2 * (4 : R) ^ k := by
    have := sq_nn ((k : R) - 1)
    grind
   constructor <;> grind
 exact (this k).1
theorem four_pow (Y : R) (k : Nat) : (4 : R) ^ k * Y ^ k = (4 * Y) ^ k := by
 induction k with
 | zero => show (1 : R) * 1 = 1; grind
 | succ k ih => rw [pow_s, pow_s, pow_s, ← ih]; grind
theorem ones_bd : ∀ k : Nat, Bd ((fun _ => 1 : Nat → R) k) 1 := fun _ => by show Bd (1 : R) 1; unfold Bd; grind
theorem psum_mono {X : R} (h : 0 ≤ X) (n j : Nat) : psum (fun _ => 1) X n ≤ psum (fun _ => 1) X (n + j) := by
 induction j with
 | zero => simp only [Nat.add_zero]; grind
 | succ j ih =>
  rw [show n + (j + 1) = n + j + 1 by omega]
  simp only [psum]
  have := tm_nn h (n + j)
  unfold tm at this
  grind
theorem psum_le {X : R} (h : 0 ≤ X) (n : Nat) : psum (fun _ => 1) X n ≤ ser _ ones_bd X := le_all fun e he => by
 obtain ⟨N, hN⟩ := ser_lim ones_bd X e he
 have h1 := hN (n + N) (by omega)
 have h2 := psum_mono h n N
 unfold Bd at h1
 grind
theorem psum_der {a : Nat → R} (ha : ∀ k, Bd (a k) 1) {x h Y : R} (hx : Bd x Y) (hxh : Bd (x + h) Y) (h1 : 1 ≤ Y) (n : Nat) :
  Bd (psum a (x + h) (n + 1) - psum a x (n + 1) - h * psum (fun k => a (k + 1)) x n) (psum (fun _ => 1) (4 * Y) (n + 1) * (h * h)) := by
 have sq := sq_nn h
 have step : ∀ k, Bd (a k * (fi k * ((x + h) ^ k - x ^ k - dpw x k * h))) (tm (4 * Y) k * (h * h)) := by
  intro k
  have f := fi_pos k
  have t := (ha k).mul ((bd_pos (x := fi k) (by grind)).mul (pow_der hx hxh h1 k))
  refine t.mono ?_
  unfold tm
  rw [← four_pow]
  have p := pow_nn (X := Y) (by grind) k
  have := mul_nn (mul_nn (mul_nn (a := (4 : R) ^ k - (k : R) * (k : R)) (b := Y ^ k) (by have := sq_four k; grind) p) sq) (b := fi k) (by grind)
  grind
 induction n with
 | zero =>
  have := step 0
  refine this.of ?_ ?_
  ·show (0 : R) + a 0 * (1 * 1) - (0 + a 0 * (1 * 1)) - h * 0 = a 0 * (1 * (1 - 1 - 0 * h)); grind
  ·show tm (4 * Y) 0 * (h * h) ≤ (0 + 1 * (fi 0 * (4 * Y) ^ 0)) * (h * h); unfold tm; grind
 | succ n ih =>
  have s := step (n + 1)
  have f := fi_succ n
  refine (ih.add s).of ?_ ?_
  ·rw [show psum a (x + h) (n + 1 + 1) = psum a (x + h) (n + 1) + a (n + 1) * (fi (n + 1) * (x + h) ^ (n + 1)) from rfl,
    show psum a x (n + 1 + 1) = psum a x (n + 1) + a (n + 1) * (fi (n + 1) * x ^ (n + 1)) from rfl,
    show psum (fun k => a (k + 1)) x (n + 1) = psum (fun k => a (k + 1)) x n + a (n + 1) * (fi n * x ^ n) from rfl,
    show dpw x (n + 1) = ((n : R) + 1) * x ^ n from rfl, ← f]
   grind
  ·rw [show psum (fun _ => 1) (4 * Y) (n + 1 + 1) = psum (fun _ => 1) (4 * Y) (n + 1) + 1 * (fi (n + 1) * (4 * Y) ^ (n + 1)) from rfl]
   unfold tm
   grind
theorem ser_der {a : Nat → R} (ha : ∀ k, Bd (a k) 1) (x : R) : Der (ser a ha) (ser (fun k => a (k + 1)) (fun k => ha (k + 1)) x) x := by
 have nx := ab_nn x
 have hY : 0 ≤ 4 * (ab x + 1) := by grind
 refine ⟨ser _ ones_bd (4 * (ab x + 1)), 1, ?_, by grind, fun h hh => ?_⟩
 ·have := psum_le hY 0
  exact this
 ·have sq := sq_nn h
  have hx : Bd x (ab x + 1) := (bd_self x).mono (by grind)
  have hxh : Bd (x + h) (ab x + 1) := (bd_self x).add hh
  have key : ∀ e : R, 0 < e → Bd (ser a ha (x + h) - ser a ha x - ser (fun k => a (k + 1)) (fun k => ha (k + 1)) x * h) (ser _ ones_bd (4 * (ab x + 1)) * (h * h) + e) := by
   intro e he
   obtain ⟨N1, h1⟩ := ser_lim ha (x + h) (e / 4) (by grind)
   obtain ⟨N2, h2⟩ := ser_lim ha x (e / 4) (by grind)
   obtain ⟨N3, h3⟩ := ser_lim (fun k => ha (k + 1)) x (e / 4) (by grind)
   have b1 := h1 (max (max N1 N2) N3 + 1) (by omega)
   have b2 := h2 (max (max N1 N2) N3 + 1) (by omega)
   have b3 := hh.mul (h3 (max (max N1 N2) N3) (by omega))
   have b4 := psum_der ha hx hxh (by grind) (max (max N1 N2) N3)
   have b5 := psum_le hY (max (max N1 N2) N3 + 1)
   have b6 := mul_nn sq (b := ser _ ones_bd (4 * (ab x + 1)) - psum (fun _ => 1) (4 * (ab x + 1)) (max (max N1 N2) N3 + 1)) (by grind)
   exact (((b4.sub b1).add b2).add b3).of (by grind) (by grind)
  constructor
  ·have := le_all (x := -(ser a ha (x + h) - ser a ha x - ser (fun k => a (k + 1)) (fun k => ha (k + 1)) x * h)) (y := ser _ ones_bd (4 * (ab x + 1)) * (h * h)) fun e he => by have := key e he; unfold Bd at this; grind
   grind
  ·exact le_all fun e he => (key e he).2
noncomputable def exp (x : R) : R := ser (fun _ => 1) ones_bd x
def sc (k : Nat) : R := match k % 4 with | 0 => 0 | 1 => 1 | 2 => 0 | _ => -1
def cc (k : Nat) : R := match k % 4 with | 0 => 1 | 1 => 0 | 2 => -1 | _ => 0
theorem mod4 (k : Nat) : k % 4 = 0 ∨ k % 4 = 1 ∨ k % 4 = 2 ∨ k % 4 = 3 := by omega
theorem sc_bd (k : Nat) : Bd (sc k) 1 := by rcases mod4 k with h | h | h | h <;> simp only [sc, h] <;> unfold Bd <;> grind
theorem cc_bd (k : Nat) : Bd (cc k) 1 := by rcases mod4 k with h | h | h | h <;> simp only [cc, h] <;> unfold Bd <;> grind
theorem sc_s (k : Nat) : sc (k + 1) = cc k := by
 rcases mod4 k with h | h | h | h
 ·simp only [sc, cc, h, show (k + 1) % 4 = 1 by omega]
 ·simp only [sc, cc, h, show (k + 1) % 4 = 2 by omega]
 ·simp only [sc, cc, h, show (k + 1) % 4 = 3 by omega]
 ·simp only [sc, cc, h, show (k + 1) % 4 = 0 by omega]
theorem cc_s (k : Nat) : cc (k + 1) = -sc k := by
 rcases mod4 k with h | h | h | h
 ·simp only [sc, cc, h, show (k + 1) % 4 = 1 by omega]; grind
 ·simp only [sc, cc, h, show (k + 1) % 4 = 2 by omega]
 ·simp only [sc, cc, h, show (k + 1) % 4 = 3 by omega]; grind
 ·simp only [sc, cc, h, show (k + 1) % 4 = 0 by omega]; grind
noncomputable def sin (x : R) : R := ser sc sc_bd x
noncomputable def cos (x : R) : R := ser cc cc_bd x
theorem exp_der (x : R) : Der exp (exp x) x := ser_der ones_bd x
theorem sin_der (x : R) : Der sin (cos x) x := by
 refine (ser_der sc_bd x).to ?_
 have := ser_eq cc_bd (fun k => sc_bd (k + 1)) (x := x) (y := x) (c := 1) fun n => by
  induction n with
  | zero => show (0 : R) = 1 * 0; grind
  | succ n ih => simp only [psum]; rw [ih, sc_s]; grind
 rw [this]; show ser cc cc_bd x = _; grind
theorem cos_der (x : R) : Der cos (-sin x) x := by
 refine (ser_der cc_bd x).to ?_
 have := ser_eq sc_bd (fun k => cc_bd (k + 1)) (x := x) (y := x) (c := -1) fun n => by
  induction n with
  | zero => show (0 : R) = -1 * 0; grind
  | succ n ih => simp only [psum]; rw [ih, cc_s]; grind
 rw [this]; show -ser sc sc_bd x = _; grind
theorem exp_zero : exp 0 = 1 := ser_zero ones_bd
theorem sin_zero : sin 0 = 0 := ser_zero sc_bd
theorem cos_zero : cos 0 = 1 := ser_zero cc_bd
theorem der_rev (s x : R) : Der (fun t => s - t) (-1) x := ((der_const s x).sub (der_id x)).to (by grind)
theorem exp_add (x y : R) : exp (x + y) = exp x * exp y := by
 have h := const_all (f := fun t => exp t * exp (x + y - t)) (fun t => ((exp_der t).mul ((exp_der (x + y - t)).comp (der_rev (x + y) t))).to (by grind)) 0 x
 simp only [exp_zero] at h
 rw [show x + y - 0 = x + y by grind, show x + y - x = y by grind] at h
 grind
theorem sin_add (x y : R) : sin (x + y) = sin x * cos y + cos x * sin y := by
 have h := const_all (f := fun t => sin t * cos (x + y - t) + cos t * sin (x + y - t))
  (fun t => (((sin_der t).mul ((cos_der (x + y - t)).comp (der_rev (x + y) t))).add ((cos_der t).mul ((sin_der (x + y - t)).comp (der_rev (x + y) t)))).to (by grind)) 0 x
 simp only [sin_zero, cos_zero] at h
 rw [show x + y - 0 = x + y by grind, show x + y - x = y by grind] at h
 grind
theorem cos_add (x y : R) : cos (x + y) = cos x * cos y - sin x * sin y := by
 have h := const_all (f := fun t => cos t * cos (x + y - t) - sin t * sin (x + y - t))
  (fun t => (((cos_der t).mul ((cos_der (x + y - t)).comp (der_rev (x + y) t))).sub ((sin_der t).mul ((sin_der (x + y - t)).comp (der_rev (x + y) t)))).to (by grind)) 0 x
 simp only [sin_zero, cos_zero] at h
 rw [show x + y - 0 = x + y by grind, show x + y - x = y by grind] at h
 grind
theorem sq_one (x : R) : sin x * sin x + cos x * cos x = 1 := by
 have h := const_all (f := fun t => sin t * sin t + cos t * cos t) (fun t => (((sin_der t).mul (sin_der t)).add ((cos_der t).mul (cos_der t))).to (by grind)) x 0
 simp only [sin_zero, cos_zero] at h
 grind
theorem sin_neg (x : R) : sin (-x) = -sin x := by
 have h1 := sin_add x (-x)
 have h2 := cos_add x (-x)
 have h3 := sq_one x
 rw [show x + -x = 0 by grind] at h1 h2
 rw [sin_zero] at h1
 rw [cos_zero] at h2
 grind
theorem cos_neg (x : R) : cos (-x) = cos x := by
 have h1 := sin_add x (-x)
 have h2 := cos_add x (-x)
 have h3 := sq_one x
 rw [show x + -x = 0 by grind] at h1 h2
 rw [sin_zero] at h1
 rw [cos_zero] at h2
 grind
theorem sin_sub (x y : R) : sin (x - y) = sin x * cos y - cos x * sin y := by
 have := sin_add x (-y)
 rw [sin_neg, cos_neg, show x + -y = x - y by grind] at this
 grind
theorem cos_sub (x y : R) : cos (x - y) = cos x * cos y + sin x * sin y := by
 have := cos_add x (-y)
 rw [sin_neg, cos_neg, show x + -y = x - y by grind] at this
 grind
theorem sin_bd (x : R) : Bd (sin x) 1 := by
 have h := sq_one x
 have h2 := sq_nn (cos x)
 unfold Bd
 constructor
 ·apply Classical.byContradiction
  intro hn
  have := mul_nn (a := -sin x - 1) (b := -sin x - 1) (by grind) (by grind)
  grind
 ·apply Classical.byContradiction
  intro hn
  have := mul_nn (a := sin x - 1) (b := sin x - 1) (by grind) (by grind)
  grind
theorem cos_bd (x : R) : Bd (cos x) 1 := by
 have h := sq_one x
 have h2 := sq_nn (sin x)
 unfold Bd
 constructor
 ·apply Classical.byContradiction
  intro hn
  have := mul_nn (a := -cos x - 1) (b := -cos x - 1) (by grind) (by grind)
  grind
 ·apply Classical.byContradiction
  intro hn
  have := mul_nn (a := cos x - 1) (b := cos x - 1) (by grind) (by grind)
  grind
theorem exp_ne (x : R) : exp x ≠ 0 := by
 intro h
 have := exp_add x (-x)
 rw [show x + -x = 0 by grind, exp_zero, h] at this
 grind
theorem exp_pos (x : R) : 0 < exp x := by
 have h := exp_add (x / 2) (x / 2)
 rw [show x / 2 + x / 2 = x by grind] at h
 have h1 := sq_nn (exp (x / 2))
 have h2 := exp_ne x
 grind
theorem exp_ge (x : R) (h : 0 ≤ x) : 1 + x ≤ exp x := by
 have h1 : ∀ t : R, 0 ≤ t → 1 ≤ exp t := fun t ht => by
  have := Rl.mono (f := exp) (f' := exp) ht (fun y _ _ => exp_der y) (fun y _ _ => by have := exp_pos y; grind)
  rwa [exp_zero] at this
 have := Rl.mono (f := fun t => exp t - t) (f' := fun t => exp t - 1) h (fun y _ _ => (exp_der y).sub (der_id y)) (fun y hy _ => by have := h1 y hy; grind)
 simp only [exp_zero] at this
 grind
theorem exp_neg (x : R) : exp x * exp (-x) = 1 := by
 rw [← exp_add, show x + -x = 0 by grind, exp_zero]
end Go.Rl
/- A quarter turn, roots, logarithms and arcs. -/
set_option linter.unusedVariables false
namespace Go.Rl
open R
def qfi : Nat → Rat
 | 0 => 1
 | k + 1 => qfi k / ((k : Rat) + 1)
def qsum (a : Nat → Int) (x : Rat) : Nat → Rat
 | 0 => 0
 | n + 1 => qsum a x n + (a n : Rat) * (qfi n * x ^ n)
theorem fi_of (k : Nat) : fi k = of (qfi k) := by
 induction k with
 | zero => rfl
 | succ k ih =>
  show fi k / ((k : R) + 1) = of (qfi k / ((k : Rat) + 1))
  rw [of_div, of_add, ih]; rfl
theorem psum_of (a : Nat → Int) (x : Rat) (n : Nat) : psum (fun k => of (a k : Rat)) (of x) n = of (qsum a x n) := by
 induction n with
 | zero => rfl
 | succ n ih => simp only [psum, qsum, of_add, of_mul, of_pow, ih, fi_of]
theorem tm_of (X : Rat) (n : Nat) : tm (of X) n = of (qfi n * X ^ n) := by unfold tm; rw [fi_of, of_mul, of_pow]
def ci (k : Nat) : Int := match k % 4 with | 0 => 1 | 1 => 0 | 2 => -1 | _ => 0
theorem cc_of (k : Nat) : cc k = of (ci k : Rat) := by
 rcases mod4 k with h | h | h | h <;> simp only [cc, ci, h] <;> rfl
theorem cos_of {x : Rat} (h : -2 ≤ x ∧ x ≤ 2) {n : Nat} (hn : 4 ≤ n) : Bd (cos (of x) - of (qsum ci x n)) (of (2 * (qfi n * 2 ^ n))) := by
 have hx : Bd (of x) (of 2) := ⟨by rw [← of_neg]; exact of_le.2 h.1, of_le.2 h.2⟩
 have := ser_tail cc_bd hx (M := 2) (n := n) (by show of 2 ≤ of ((2 : Nat) : Rat); exact of_le.2 (by decide)) (by omega)
 have e : psum cc (of x) n = of (qsum ci x n) := by
  rw [← psum_of, show cc = fun k => of (ci k : Rat) from funext cc_of]
 rw [e] at this
 have e2 : of (2 * (qfi n * 2 ^ n)) = 2 * tm (of 2) n := by rw [tm_of, of_mul]; rfl
 rw [e2]
 exact this
theorem sin_le {t : R} (h : 0 ≤ t) : sin t ≤ t := by
 have := Rl.mono (f := fun y => y - sin y) (f' := fun y => 1 - cos y) h (fun y _ _ => (der_id y).sub (sin_der y)) (fun y _ _ => by have := (cos_bd y).2; grind)
 simp only [sin_zero] at this
 grind
theorem cos_ge {t : R} (h : 0 ≤ t) : 1 - t * t / 2 ≤ cos t := by
 have := Rl.mono (f := fun y => cos y + 1 / 2 * (y * y)) (f' := fun y => -sin y + y) h (fun y _ _ => ((cos_der y).add (((der_id y).mul (der_id y)).smul (1 / 2))).to (by grind)) (fun y hy _ => by have := sin_le hy; grind)
 simp only [cos_zero] at this
 grind
theorem sin_ge {t : R} (h : 0 ≤ t) : t - t * t * t / 6 ≤ sin t := by
 have := Rl.mono (f := fun y => sin y - y + 1 / 6 * (y * y * y)) (f' := fun y => cos y - 1 + 1 / 2 * (y * y)) h
  (fun y _ _ => (((sin_der y).sub (der_id y)).add ((((der_id y).mul (der_id y)).mul (der_id y)).smul (1 / 6))).to (by grind)) (fun y hy _ => by have := cos_ge hy; grind)
 simp only [sin_zero] at this
 grind
def P0 : Rat := 7244019458077122842 / 4611686018427387904
def P1 : Rat := 7244019458077122843 / 4611686018427387904
theorem quarter_ex : ∃ h : R, of P0 ≤ h ∧ h ≤ of P1 ∧ cos h = 0 := by
 have c0 := cos_of (x := P0) (by decide +kernel) (n := 30) (by omega)
 have c1 := cos_of (x := P1) (by decide +kernel) (n := 30) (by omega)
 have e0 : 2 * (qfi 30 * 2 ^ 30) ≤ qsum ci P0 30 := by decide +kernel
 have e1 : qsum ci P1 30 ≤ -(2 * (qfi 30 * 2 ^ 30)) := by decide +kernel
 have e0 := of_le.2 e0
 have e1 := of_le.2 e1
 rw [of_neg] at e1
 obtain ⟨c, h1, h2, h3⟩ := ivt (f := fun t => -cos t) (a := of P0) (b := of P1) (of_le.2 (by decide +kernel)) (fun x _ _ => (cos_der x).neg.cont) (by unfold Bd at c0; grind) (by unfold Bd at c1; grind)
 exact ⟨c, h1, h2, by grind⟩
noncomputable def qt : R := Classical.choose quarter_ex
theorem qt_lo : of P0 ≤ qt := (Classical.choose_spec quarter_ex).1
theorem qt_hi : qt ≤ of P1 := (Classical.choose_spec quarter_ex).2.1
theorem cos_qt : cos qt = 0 := (Classical.choose_spec quarter_ex).2.2
theorem qt_ge : (3 / 2 : R) ≤ qt := by
 have h : of (3 / 2) ≤ of P0 := of_le.2 (by decide +kernel)
 rw [of_div] at h
 have := qt_lo
 exact Std.le_trans h this
theorem qt_le : qt ≤ (8 / 5 : R) := by
 have h : of P1 ≤ of (8 / 5) := of_le.2 (by decide +kernel)
 rw [of_div] at h
 have := qt_hi
 exact Std.le_trans this h
theorem sin_pos2 {t : R} (h : 0 < t) (h2 : t ≤ 2) : 0 < sin t := by
 have h1 := sin_ge (t := t) (by grind)
 have h3 := mul_nn (a := 2 - t) (b := 2 + t) (by grind) (by grind)
 have h4 := mul_nn (a := t) (b := 4 - t * t) (by grind) (by grind)
 grind
theorem sin_qt : sin qt = 1 := by
 have h1 := sq_one qt
 rw [cos_qt] at h1
 have h2 := sin_pos2 (t := qt) (by have := qt_ge; grind) (by have := qt_le; grind)
 have h3 : (sin qt - 1) * (sin qt + 1) = 0 := by grind
 have h4 : sin qt + 1 ≠ 0 := by grind
 grind
theorem sin_shift (x : R) : sin (x + qt) = cos x := by rw [sin_add, cos_qt, sin_qt]; grind
theorem cos_shift (x : R) : cos (x + qt) = -sin x := by rw [cos_add, cos_qt, sin_qt]; grind
theorem sin_co (x : R) : sin (qt - x) = cos x := by rw [sin_sub, cos_qt, sin_qt]; grind
theorem cos_co (x : R) : cos (qt - x) = sin x := by rw [cos_sub, cos_qt, sin_qt]; grind
theorem cos_pos {x : R} (h : -qt < x) (k : x < qt) : 0 < cos x := by
 have q := qt_le
 by_cases hx : 0 ≤ x
 ·rw [← sin_co]; exact sin_pos2 (by grind) (by grind)
 ·rw [← cos_neg, ← sin_co]; exact sin_pos2 (by grind) (by grind)
theorem sin_pos {x : R} (h : 0 < x) (k : x < 2 * qt) : 0 < sin x := by
 rw [← cos_co]; exact cos_pos (by grind) (by grind)
theorem sin_lt {x y : R} (h : -qt ≤ x) (k : y ≤ qt) (l : x < y) : sin x < sin y := by
 have h1 := sin_add ((x + y) / 2) ((y - x) / 2)
 have h2 := sin_sub ((x + y) / 2) ((y - x) / 2)
 rw [show (x + y) / 2 + (y - x) / 2 = y by grind] at h1
 rw [show (x + y) / 2 - (y - x) / 2 = x by grind] at h2
 have p := cos_pos (x := (x + y) / 2) (by grind) (by grind)
 have q := sin_pos (x := (y - x) / 2) (by grind) (by have := qt_ge; grind)
 have := mul_pos p q
 grind
theorem sin_mono {x y : R} (h : -qt ≤ x) (k : y ≤ qt) (l : x ≤ y) : sin x ≤ sin y := by
 by_cases e : x = y
 ·subst e; grind
 ·have := sin_lt h k (by grind); grind
noncomputable def turned (k : Int) (x : R) : R := match k % 4 with | 0 => sin x | 1 => cos x | 2 => -sin x | _ => -cos x
theorem int_cast_add (a b : Int) : ((a + b : Int) : R) = (a : R) + (b : R) := by
 show of ((a + b : Int) : Rat) = of (a : Rat) + of (b : Rat)
 rw [← of_add, Rat.intCast_add]
theorem emod4 (k : Int) : k % 4 = 0 ∨ k % 4 = 1 ∨ k % 4 = 2 ∨ k % 4 = 3 := by omega
theorem turned_succ (k : Int) (x : R) : turned (k + 1) x = turned k (x + qt) := by
 unfold turned
 rw [sin_shift, cos_shift]
 rcases emod4 k with h | h | h | h
 ·rw [h, show (k + 1) % 4 = 1 by omega]; rfl
 ·rw [h, show (k + 1) % 4 = 2 by omega]; rfl
 ·rw [h, show (k + 1) % 4 = 3 by omega]; rfl
 ·rw [h, show (k + 1) % 4 = 0 by omega]; show sin x = - -sin x; grind
theorem sin_turned (k : Int) : ∀ x : R, sin (x + (k : R) * qt) = turned k x := by
 have nat : ∀ (n : Nat) (x : R), sin (x + ((n : Int) : R) * qt) = turned n x := by
  intro n
  induction n with
  | zero => intro x; show sin (x + (0 : R) * qt) = sin x; congr 1; grind
  | succ n ih =>
   intro x
   rw [show ((n + 1 : Nat) : Int) = (n : Int) + 1 by omega, turned_succ, ← ih, int_cast_add]
   congr 1
   show x + ((n : Int) + (1 : R)) * qt = _
   grind
 have neg : ∀ (n : Nat) (x : R), sin (x + ((-(n : Int) : Int) : R) * qt) = turned (-(n : Int)) x := by
  intro n
  induction n with
  | zero => intro x; show sin (x + (0 : R) * qt) = sin x; congr 1; grind
  | succ n ih =>
   intro x
   have h1 := turned_succ (-((n + 1 : Nat) : Int)) (x - qt)
   rw [show -((n + 1 : Nat) : Int) + 1 = -(n : Int) by omega, ← ih, show x - qt + qt = x by grind] at h1
   rw [← h1]
   congr 1
   have h2 := int_cast_add (-((n + 1 : Nat) : Int)) 1
   rw [show -((n + 1 : Nat) : Int) + 1 = -(n : Int) by omega] at h2
   rw [h2]
   show x + _ * qt = x - qt + (_ + (1 : R)) * qt
   grind
 intro x
 rcases Int.le_total 0 k with h | h
 ·have := nat k.toNat x
  rwa [show ((k.toNat : Nat) : Int) = k by omega] at this
 ·have := neg (-k).toNat x
  rwa [show -(((-k).toNat : Nat) : Int) = k by omega] at this
theorem sqrt_ex (y : R) : ∃ x : R, 0 ≤ x ∧ (0 ≤ y → x * x = y) := by
 by_cases h : 0 ≤ y
 ·obtain ⟨c, c1, c2, c3⟩ := ivt (f := fun t => t * t - y) (a := 0) (b := y + 1) (by grind) (fun x _ _ => (((der_id x).mul (der_id x)).sub (der_const y x)).cont) (by grind) (by have := sq_nn y; grind)
  exact ⟨c, c1, fun _ => by grind⟩
 ·exact ⟨0, by grind, fun k => absurd k h⟩
noncomputable def sqrt (y : R) : R := Classical.choose (sqrt_ex y)
theorem sqrt_nn (y : R) : 0 ≤ sqrt y := (Classical.choose_spec (sqrt_ex y)).1
theorem sqrt_sq {y : R} (h : 0 ≤ y) : sqrt y * sqrt y = y := (Classical.choose_spec (sqrt_ex y)).2 h
theorem sq_le {x y : R} (hy : 0 ≤ y) (h : x * x ≤ y * y) : x ≤ y := by
 apply Classical.byContradiction
 intro hn
 have := mul_pos (a := x - y) (b := x + y) (by grind) (by grind)
 grind
theorem sqrt_of {x y : R} (hx : 0 ≤ x) (h : x * x = y) : sqrt y = x := by
 have h1 := sqrt_sq (y := y) (by rw [← h]; exact sq_nn x)
 have h2 := sq_le hx (x := sqrt y) (by grind)
 have h3 := sq_le (sqrt_nn y) (x := x) (by grind)
 grind
theorem sqrt_pos {x : R} (hx : 0 < x) : 0 < sqrt x := by
 have h1 := sqrt_nn x
 have h2 := sqrt_sq (y := x) (by grind)
 apply Classical.byContradiction
 intro hn
 have : sqrt x = 0 := by grind
 rw [this] at h2
 grind
theorem log_ex (y : R) : ∃ x : R, 0 < y → exp x = y := by
 by_cases h : 0 < y
 ·have hi := R.inv_pos h
  obtain ⟨c, c1, c2, c3⟩ := ivt (f := fun t => exp t - y) (a := -y⁻¹) (b := y) (by grind) (fun x _ _ => ((exp_der x).sub (der_const y x)).cont)
   (by
    have h1 := exp_ge y⁻¹ (by grind)
    have h2 := exp_neg y⁻¹
    have h3 := exp_pos (-y⁻¹)
    have h4 := mul_nn (a := exp y⁻¹ - y⁻¹) (b := exp (-y⁻¹)) (by grind) (by grind)
    have h5 : y * y⁻¹ = 1 := by grind
    have h6 : exp (-y⁻¹) ≤ y := by
     refine le_of_mul (c := y⁻¹) ?_ hi
     grind
    grind)
   (by have := exp_ge y (by grind); grind)
  exact ⟨c, fun _ => by grind⟩
 ·exact ⟨0, fun k => absurd k h⟩
noncomputable def log (y : R) : R := Classical.choose (log_ex y)
end Go.Rl
