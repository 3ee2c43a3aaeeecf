/- What the printed functions come to: texts of ellipsoids and points. -/
import Derived.Test.YtoncbpohjdackaaDoorQ1
set_option linter.unusedVariables false
set_option linter.unusedSimpArgs false
namespace Go.Proofs.YtoncbpohjdackaaDoor.TX
open Go.RowKit Go.Proofs.YtoncbpohjdackaaDoorW.PrintWords Go.Proofs.YtoncbpohjdackaaDoorW.PrintLast
open Go.TX Go.Lib

def i64 (x : Int) : Prop := -9223372036854775808 ≤ x ∧ x ≤ 9223372036854775807
theorem i64_nat {n : Nat} (h : n ≤ 1000000000000000000) : i64 (n : Int) := by unfold i64; omega
theorem lit_bs (l : List UInt8) : (⟨l.toArray⟩ : ByteArray) = bs l := rfl
theorem fits_ {l m : List UInt8} (h : l.length + m.length ≤ 1000) : (bs l).size + (bs m).size ≤ 9223372036854775807 := by rw [bs_size, bs_size]; omega
theorem fits1_ {l : List UInt8} (h : l.length ≤ 1000) : (bs l).size + 1 ≤ 9223372036854775807 := by rw [bs_size]; omega
theorem fits1'_ {l : List UInt8} (h : l.length ≤ 1000) : 1 + (bs l).size ≤ 9223372036854775807 := by rw [bs_size]; omega
theorem fits0_ {l : List UInt8} (h : l.length ≤ 1000) : 0 + (bs l).size ≤ 9223372036854775807 := by rw [bs_size]; omega
theorem itoa_le (n : Int) (h : i64 n) : (itoa n).length ≤ 21 := itoa_length_le n h.1 h.2

def etext (a n d : Int) : List UInt8 := itoa a ++ [32] ++ itoa n ++ [47] ++ itoa d
theorem decimal_f (n : Int) (h : i64 n) : impl_Decimal.f n = some (bs (itoa n)) := by
  unfold impl_Decimal.f strconv_FormatInt_65.f
  rw [if_pos rfl, if_pos (show _ ∧ _ from h)]; rfl
theorem l12Text_ev (a n d : Int) (ha : i64 a) (hn : i64 n) (hd : i64 d) : Ev (fun k => spec_l12Text.f k a n d) (bs (etext a n d)) := by
  obtain ⟨K1, h1⟩ := l01Dec_ev a ha.1 ha.2
  obtain ⟨K2, h2⟩ := l01Dec_ev n hn.1 hn.2
  obtain ⟨K3, h3⟩ := l01Dec_ev d hd.1 hd.2
  have l1 := itoa_le a ha
  have l2 := itoa_le n hn
  have l3 := itoa_le d hd
  refine ⟨max K1 (max K2 K3), fun k hk => ?_⟩
  have e1 := h1 k (by omega)
  have e2 := h2 k (by omega)
  have e3 := h3 k (by omega)
  simp only at e1 e2 e3
  simp only [spec_l12Text.f, e1, e2, e3, Option.bind_some, bs_append]
  rw [if_pos (fits1_ (by omega)), if_pos (fits_ (by simp; omega)), if_pos (fits1_ (by simp; omega)), if_pos (fits_ (by simp; omega))]
  rfl
theorem ellipsoidText_f (a n d : Int) (ha : i64 a) (hn : i64 n) (hd : i64 d) : impl_ellipsoidText.f a n d = some (bs (etext a n d)) := by
  have l1 := itoa_le a ha
  have l2 := itoa_le n hn
  have l3 := itoa_le d hd
  simp only [impl_ellipsoidText.f, decimal_f a ha, decimal_f n hn, decimal_f d hd, Option.bind_some, bs_append]
  rw [if_pos (fits1_ (by omega)), if_pos (fits_ (by simp; omega)), if_pos (fits1_ (by simp; omega)), if_pos (fits_ (by simp; omega))]
  rfl
theorem within_in (a b c : Int) : impl_within.f a b c = spec_l00In.f a b c := rfl
def okE (a n d : Int) : Bool := decide (1000 ≤ a ∧ a ≤ 100000000000 ∧ 1 ≤ d ∧ d ≤ 1000000000000 ∧ 0 ≤ n ∧ n ≤ Int.tdiv d 100)
theorem l12Ok_f (a n d : Int) : spec_l12Ok.f a n d = some (okE a n d) := by
  unfold spec_l12Ok.f spec_l00In.f okE
  by_cases h1 : a ≥ 1000
  · by_cases h2 : a ≤ 100000000000
    · by_cases h3 : d ≥ 1
      · by_cases h4 : d ≤ 1000000000000
        · have hw : wrap64 (Int.tdiv d 100) = Int.tdiv d 100 := by
            have : Int.tdiv d 100 = d / 100 := Int.tdiv_eq_ediv_of_nonneg (by omega)
            rw [this]; unfold wrap64; omega
          by_cases h5 : n ≥ 0
          · simp [h1, h2, h3, h4, h5, hw] <;> omega
          · simp [h1, h2, h3, h4, h5] <;> omega
        · simp [h1, h2, h3, h4] <;> omega
      · simp [h1, h2, h3] <;> omega
    · simp [h1, h2] <;> omega
  · simp [h1] <;> omega
theorem validE_f (a n d : Int) : impl_ValidEllipsoid.f a n d = some (okE a n d) := by
  rw [← l12Ok_f]
  unfold impl_ValidEllipsoid.f spec_l12Ok.f
  simp only [within_in]
  congr 1; funext t
  split
  · congr 1; funext t
    split
    · unfold spec_l00In.f; split <;> rfl
    · rfl
  · rfl
theorem okE_i64 {a n d : Int} (h : okE a n d = true) : i64 a ∧ i64 n ∧ i64 d := by
  simp only [okE, decide_eq_true_eq] at h
  have : Int.tdiv d 100 = d / 100 := Int.tdiv_eq_ediv_of_nonneg (by omega)
  unfold i64; omega
def EText (a n d : Int) : List UInt8 := if okE a n d = true then etext a n d else []
theorem specEText_ev (a n d : Int) : Ev (fun k => spec_EllipsoidText.f k a n d) (bs (EText a n d)) := by
  unfold spec_EllipsoidText.f EText
  by_cases h : okE a n d = true
  · obtain ⟨h1, h2, h3⟩ := okE_i64 h
    obtain ⟨K, hK⟩ := l12Text_ev a n d h1 h2 h3
    refine ⟨K, fun k hk => ?_⟩
    have e := hK k hk
    simp only at e
    show (spec_l12Ok.f a n d).bind _ = _
    rw [l12Ok_f, Option.bind_some, if_pos h, if_pos h, e]; rfl
  · refine ⟨0, fun k hk => ?_⟩
    simp only
    rw [l12Ok_f, Option.bind_some, if_neg h, if_neg h]
theorem implEText_f (a n d : Int) : impl_EllipsoidText.f a n d = some (bs (EText a n d)) := by
  unfold impl_EllipsoidText.f EText
  rw [validE_f, Option.bind_some]
  by_cases h : okE a n d = true
  · obtain ⟨h1, h2, h3⟩ := okE_i64 h
    rw [if_pos h, if_pos h, ellipsoidText_f a n d h1 h2 h3]; rfl
  · rw [if_neg h, if_neg h]
theorem lawEllipsoidText (a n d : Int) : ∃ k, laws_FnExactEllipsoidText.f k a n d = some true := by
  obtain ⟨K, hK⟩ := specEText_ev a n d
  refine ⟨K, ?_⟩
  have e := hK K (Nat.le_refl _)
  simp only at e
  simp only [laws_FnExactEllipsoidText.f, laws_toEllipsoid.f, Option.bind_some, e, implEText_f, if_true]

theorem ev_succ {α : Type} {g : Nat → Option α} {r : α} (K : Nat) (h : ∀ k, K ≤ k → g (k + 1) = some r) : Ev g r := ⟨K + 1, fun k hk => by
  obtain ⟨k, rfl⟩ : ∃ k', k = k' + 1 := ⟨k - 1, by omega⟩
  exact h k (by omega)⟩
/-! ### Points -/
theorem digits_loop (r : ByteArray) : ∀ (j n : Nat) (l : List UInt8), n ≤ 9223372036854775807 → j ≤ 100 → l.length ≤ 900 → r = bs (digs j n ++ l) → j + l.length ≤ 900 → Ev (fun k => spec_l11Digits.l0 k n j (bs l)) r
  | 0, n, l, hn, hj, hl, hr, _ => ev_of_all fun k => by simp only [spec_l11Digits.l0]; rw [if_neg (by omega), hr]; rfl
  | j + 1, n, l, hn, hj, hl, hr, hjl => by
    have ht : Int.tmod (n : Int) 10 = ((n % 10 : Nat) : Int) := (Int.ofNat_tmod n 10).symm
    have hd : Int.tdiv (n : Int) 10 = ((n / 10 : Nat) : Int) := (Int.ofNat_tdiv n 10).symm
    refine Ev.step (f := fun k => spec_l11Digits.l0 k ((n / 10 : Nat) : Int) (j : Int) (bs (UInt8.ofNat (48 + n % 10) :: l))) (fun k => ?_) (digits_loop r j (n / 10) _ (by omega) (by omega) (by simp; omega) (by rw [hr, digs]; simp) (by simp; omega))
    simp only [spec_l11Digits.l0]
    rw [if_pos (by omega), Option.bind_some, ht, hd, wrap_small (x := ((n / 10 : Nat) : Int)) (by omega) (by omega), wrap_small (x := ((j + 1 : Nat) : Int) - 1) (by omega) (by omega), dig_int _ (by omega)]
    rw [show [((UInt8.ofNat (48 + n % 10)).toNat : Int)] = ints [UInt8.ofNat (48 + n % 10)] from rfl, str_ints, if_pos (fits_ (by simp; omega)), bs_append]
    rw [show ((j + 1 : Nat) : Int) - 1 = j by omega]
    rfl
theorem l11Digits_ev (n : Nat) (j : Nat) (hn : n ≤ 9223372036854775807) (hj : j ≤ 100) : Ev (fun k => spec_l11Digits.f k n j) (bs (digs j n)) :=
  digits_loop _ j n [] hn hj (by simp) (by simp) (by simp; omega)

def dt (d : Nat) (m : Int) : List UInt8 := sgn m ++ (decDigits (m.natAbs / 10 ^ d) ++ (if d = 0 then [] else 46 :: digs d (m.natAbs % 10 ^ d)))
theorem itoa_nat (n : Nat) : itoa (n : Int) = decDigits n := by rw [itoa_sgn]; unfold sgn; rw [if_neg (by omega)]; simp
theorem l11Text_ev (n : Int) (h : n.natAbs < 10 ^ 18) : Ev (fun k => spec_l11Text.f k n) (bs (dt 7 n)) := by
  have h' : n.natAbs < 1000000000000000000 := h
  have hi : i64 ((n.natAbs / 10000000 : Nat) : Int) := by unfold i64; omega
  obtain ⟨K1, h1⟩ := l01Dec_ev ((n.natAbs / 10000000 : Nat) : Int) hi.1 hi.2
  obtain ⟨K2, h2⟩ := l11Digits_ev (n.natAbs % 10000000) 7 (by omega) (by omega)
  have l1 := itoa_le _ hi
  refine ⟨max K1 K2, fun k hk => ?_⟩
  have e1 := h1 k (by omega)
  have e2 := h2 k (by omega)
  have hl2 := digs_length 7 (n.natAbs % 10000000)
  simp only at e1 e2
  rw [itoa_nat] at e1 l1
  have e2' : spec_l11Digits.f k ((n.natAbs % 10000000 : Nat) : Int) 7 = some (bs (digs 7 (n.natAbs % 10000000))) := e2
  simp only [spec_l11Text.f]
  by_cases hn : n < 0
  · have ha : wrap64 (-n) = (n.natAbs : Int) := by rw [wrap_small (by omega) (by omega)]; omega
    have hd : wrap64 (Int.tdiv (n.natAbs : Int) 10000000) = ((n.natAbs / 10000000 : Nat) : Int) := by
      rw [show Int.tdiv (n.natAbs : Int) 10000000 = ((n.natAbs / 10000000 : Nat) : Int) from (Int.ofNat_tdiv _ 10000000).symm, wrap_small (by omega) (by omega)]
    have hm : Int.tmod (n.natAbs : Int) 10000000 = ((n.natAbs % 10000000 : Nat) : Int) := (Int.ofNat_tmod _ 10000000).symm
    rw [if_pos hn, ha, hd, hm, e1, Option.bind_some, if_pos (fits1'_ (by omega)), e2', Option.bind_some]
    simp only [bs_append]
    rw [if_pos (fits1_ (by simp; omega)), if_pos (fits_ (by simp; omega))]
    simp [dt, sgn, hn]
  · have ha : n = (n.natAbs : Int) := by omega
    have hd : wrap64 (Int.tdiv n 10000000) = ((n.natAbs / 10000000 : Nat) : Int) := by
      rw [ha, show Int.tdiv (n.natAbs : Int) 10000000 = ((n.natAbs / 10000000 : Nat) : Int) from (Int.ofNat_tdiv _ 10000000).symm, wrap_small (by omega) (by omega), Int.natAbs_natCast]
    have hm : Int.tmod n 10000000 = ((n.natAbs % 10000000 : Nat) : Int) := by rw [ha]; exact (Int.ofNat_tmod _ 10000000).symm
    rw [if_neg hn, hd, hm, e1, Option.bind_some, if_pos (fits0_ (by omega)), e2', Option.bind_some]
    simp only [bs_append]
    rw [if_pos (fits1_ (by simp; omega)), if_pos (fits_ (by simp; omega))]
    simp [dt, sgn, hn]
theorem pow_loop (r : Int) : ∀ (j : Nat) (d i : Nat) (x : Int), i + j = d → d ≤ 9 → x = ((10 ^ i : Nat) : Int) → r = ((10 ^ d : Nat) : Int) → Ev (fun k => impl_powerOfTen.l0 k x d i) r
  | 0, d, i, x, h, hd, hx, hr => ev_of_all fun k => by
    simp only [impl_powerOfTen.l0]
    rw [if_neg (by omega), hx, hr, show i = d by omega]
  | j + 1, d, i, x, h, hd, hx, hr => by
    refine Ev.step (f := fun k => impl_powerOfTen.l0 k (x * 10) d ((i + 1 : Nat) : Int)) (fun k => ?_) (pow_loop r j d (i + 1) _ (by omega) hd (by rw [hx, Nat.pow_succ]; simp) hr)
    have hb : 10 ^ i ≤ 10 ^ 9 := Nat.pow_le_pow_right (by omega) (by omega)
    have hb' : 10 ^ i ≤ 1000000000 := hb
    generalize 10 ^ i = p at hx hb'
    simp only [impl_powerOfTen.l0]
    rw [if_pos (by omega), wrap_small (x := x * 10) (by omega) (by omega), wrap_small (x := (i : Int) + 1) (by omega) (by omega)]
    rfl
theorem power_ev (d : Nat) (hd : d ≤ 9) : Ev (fun k => impl_powerOfTen.f k d) ((10 ^ d : Nat) : Int) := pow_loop _ d d 0 1 (by omega) hd (by simp) rfl
theorem repeat_zero (n : Nat) (h : n ≤ 100) : strings_Repeat.f (⟨#[48]⟩ : ByteArray) (n : Int) = some (bs (List.replicate n 48)) := by
  unfold strings_Repeat.f
  rw [if_pos ⟨by omega, by omega, by rw [show (⟨#[48]⟩ : ByteArray).size = 1 from rfl]; simp; omega⟩]
  simp only [Int.toNat_natCast]
  congr 2
  show (repeatL (List.replicate 1 48) n).toArray = _
  rw [repeatL_replicate]; simp
theorem digitsText_ev (m : Int) (d : Nat) (hd : d ≤ 9) (h : m.natAbs < 10 ^ 18) : Ev (fun k => impl_digitsText.f k m d) (bs (dt d m)) := by
  have h' : m.natAbs < 1000000000000000000 := h
  obtain ⟨K, hK⟩ := power_ev d hd
  have hp : 10 ^ d ≤ 10 ^ 9 := Nat.pow_le_pow_right (by omega) hd
  have hp' : 10 ^ d ≤ 1000000000 := hp
  have hp0 : 0 < 10 ^ d := Nat.pow_pos (by omega)
  generalize hP : 10 ^ d = P at hK hp' hp0
  have core : ∀ k, K ≤ k → impl_digitsText.j0 (k + 1) (m.natAbs : Int) d (bs (sgn m)) = some (bs (dt d m)) := by
    intro k hk
    have e := hK k hk
    simp only at e
    have hq : m.natAbs / P ≤ m.natAbs := Nat.div_le_self _ _
    have hr : m.natAbs % P < P := Nat.mod_lt _ hp0
    have htd : Int.tdiv (m.natAbs : Int) (P : Int) = ((m.natAbs / P : Nat) : Int) := (Int.ofNat_tdiv _ P).symm
    have htm : Int.tmod (m.natAbs : Int) (P : Int) = ((m.natAbs % P : Nat) : Int) := (Int.ofNat_tmod _ P).symm
    have hs : (sgn m).length ≤ 1 := by unfold sgn; split <;> simp
    have i1 : i64 ((m.natAbs / P : Nat) : Int) := i64_nat (Nat.le_trans hq (by omega))
    have i2 : i64 ((m.natAbs % P : Nat) : Int) := i64_nat (Nat.le_trans (Nat.le_of_lt hr) (by omega))
    have l1 := itoa_le _ i1
    have l2 := itoa_le _ i2
    simp only [impl_digitsText.j0]
    have hP0 : ¬ ((P : Int) = 0) := by omega
    rw [e, Option.bind_some, if_neg hP0, htd, htm, wrap_small i1.1 i1.2, decimal_f _ i1, Option.bind_some, decimal_f _ i2, Option.bind_some]
    rw [itoa_nat] at l1 l2 ⊢
    rw [itoa_nat, if_pos (fits_ (by omega))]
    simp only [bs_append]
    by_cases h0 : d = 0
    · rw [if_pos (by omega)]
      simp [dt, h0]
      subst h0
      simp at hP
      subst hP
      simp
    · have hlen : (decDigits (m.natAbs % P)).length ≤ d := dec_length_le _ d (by omega) (by rw [hP]; exact hr)
      have hw : wrap64 ((d : Int) - ((bs (decDigits (m.natAbs % P))).size : Int)) = ((d - (decDigits (m.natAbs % P)).length : Nat) : Int) := by
        rw [bs_size, wrap_small (by omega) (by omega)]; omega
      rw [if_neg (by omega), if_pos (fits1_ (by simp; omega)), hw, repeat_zero _ (by omega), Option.bind_some, if_pos (fits_ (by simp; omega)), if_pos (fits_ (by simp; omega))]
      have hpd := pad_digs d (m.natAbs % P) (by omega) (by rw [hP]; exact hr)
      simp only [dt, h0, if_false, hP, ← hpd, pad, bs_append]
      simp
  refine ⟨K + 1, fun k hk => ?_⟩
  obtain ⟨k, rfl⟩ : ∃ k', k = k' + 1 := ⟨k - 1, by omega⟩
  have hc := core k (by omega)
  simp only [impl_digitsText.f]
  by_cases hn : m < 0
  · have ha : wrap64 (-m) = (m.natAbs : Int) := by rw [wrap_small (by omega) (by omega)]; omega
    have hsg : sgn m = [45] := by unfold sgn; rw [if_pos hn]
    rw [hsg] at hc
    rw [if_pos hn, ha]
    exact hc
  · have ha : (m.natAbs : Int) = m := by omega
    have hsg : sgn m = [] := by unfold sgn; rw [if_neg hn]
    rw [hsg, ha] at hc
    rw [if_neg hn]
    exact hc
theorem dt_len (m : Int) (h : m.natAbs < 10 ^ 18) : (dt 7 m).length ≤ 40 := by
  have h' : m.natAbs < 1000000000000000000 := h
  have i1 : i64 ((m.natAbs / 10000000 : Nat) : Int) := by unfold i64; omega
  have l1 := itoa_le _ i1
  rw [itoa_nat] at l1
  have hs : (sgn m).length ≤ 1 := by unfold sgn; split <;> simp
  have hg := digs_length 7 (m.natAbs % 10000000)
  simp [dt]
  omega
def okP (lat lon : Int) : Bool := decide (-900000000 ≤ lat ∧ lat ≤ 900000000 ∧ -1800000000 < lon ∧ lon ≤ 1800000000)
theorem l11Ok_f (a b : Int) : spec_l11Ok.f a b = some (okP a b) := by
  unfold spec_l11Ok.f spec_l00In.f okP
  by_cases h1 : a ≥ -900000000
  · by_cases h2 : a ≤ 900000000
    · by_cases h3 : b ≥ -1799999999
      · simp [h1, h2, h3] <;> omega
      · simp [h1, h2, h3] <;> omega
    · simp [h1, h2] <;> omega
  · simp [h1] <;> omega
theorem validP_f (a b : Int) : impl_ValidPoint.f a b = some (okP a b) := by
  unfold impl_ValidPoint.f impl_within.f okP
  by_cases h1 : a ≥ -900000000
  · by_cases h2 : a ≤ 900000000
    · by_cases h3 : b > -1800000000
      · simp [h1, h2, h3] <;> omega
      · simp [h1, h2, h3] <;> omega
    · simp [h1, h2] <;> omega
  · simp [h1] <;> omega
theorem okP_small {a b : Int} (h : okP a b = true) : a.natAbs < 10 ^ 18 ∧ b.natAbs < 10 ^ 18 := by
  simp only [okP, decide_eq_true_eq] at h
  show a.natAbs < 1000000000000000000 ∧ b.natAbs < 1000000000000000000
  omega
def ptext (a b : Int) : List UInt8 := dt 7 a ++ [32] ++ dt 7 b
def PText (a b : Int) : List UInt8 := if okP a b = true then ptext a b else []
theorem specPText_ev (a b : Int) : Ev (fun k => spec_PointText.f k a b) (bs (PText a b)) := by
  unfold spec_PointText.f PText
  by_cases h : okP a b = true
  · obtain ⟨h1, h2⟩ := okP_small h
    obtain ⟨K1, hK1⟩ := l11Text_ev a h1
    obtain ⟨K2, hK2⟩ := l11Text_ev b h2
    have l1 := dt_len a h1
    have l2 := dt_len b h2
    refine ⟨max K1 K2, fun k hk => ?_⟩
    have e1 := hK1 k (by omega)
    have e2 := hK2 k (by omega)
    simp only at e1 e2
    simp only
    rw [l11Ok_f, Option.bind_some, if_pos h, if_pos h, e1, Option.bind_some, e2, Option.bind_some, if_pos (fits1_ (by omega))]
    simp only [bs_append]
    rw [if_pos (fits_ (by simp; omega))]
    rfl
  · refine ⟨0, fun k hk => ?_⟩
    simp only
    rw [l11Ok_f, Option.bind_some, if_neg h, if_neg h]
theorem implPText_ev (a b : Int) : Ev (fun k => impl_PointText.f k a b) (bs (PText a b)) := by
  unfold impl_PointText.f PText
  by_cases h : okP a b = true
  · obtain ⟨h1, h2⟩ := okP_small h
    obtain ⟨K1, hK1⟩ := digitsText_ev a 7 (by omega) h1
    obtain ⟨K2, hK2⟩ := digitsText_ev b 7 (by omega) h2
    have l1 := dt_len a h1
    have l2 := dt_len b h2
    refine ⟨max K1 K2, fun k hk => ?_⟩
    have e1 := hK1 k (by omega)
    have e2 := hK2 k (by omega)
    simp only at e1 e2
    have e1' : impl_digitsText.f k a 7 = some (bs (dt 7 a)) := e1
    have e2' : impl_digitsText.f k b 7 = some (bs (dt 7 b)) := e2
    simp only [impl_pointText.f, impl_degreesText.f]
    rw [validP_f, Option.bind_some, if_pos h, if_pos h, e1', e2']
    simp only [Option.bind_some, bs_append]
    rw [if_pos (fits1_ (by omega)), if_pos (fits_ (by simp; omega))]
    rfl
  · refine ⟨0, fun k hk => ?_⟩
    simp only
    rw [validP_f, Option.bind_some, if_neg h, if_neg h]
theorem lawPointText (a b : Int) : ∃ k, laws_FnExactPointText.f k a b = some true := by
  obtain ⟨K1, hK1⟩ := specPText_ev a b
  obtain ⟨K2, hK2⟩ := implPText_ev a b
  refine ⟨max K1 K2, ?_⟩
  have e1 := hK1 (max K1 K2) (by omega)
  have e2 := hK2 (max K1 K2) (by omega)
  simp only at e1 e2
  simp only [laws_FnExactPointText.f, laws_toPoint.f, Option.bind_some, e1, e2, if_true]
end Go.Proofs.YtoncbpohjdackaaDoor.TX
