/- The texts of points and angles, as the printed functions come to them. -/
import Derived.Test.YtogpbandlpjccaaGreatDoorXP2
import Derived.Lib.ItoaLen
import Derived.Lib.Bytes
set_option linter.unusedVariables false
set_option linter.unusedSimpArgs false
namespace Go.Proofs.YtogpbandlpjccaaGreatDoor.TX
open Go.RowKit Go.Proofs.YtogpbandlpjccaaGreatDoorW.PrintWords Go.Proofs.YtogpbandlpjccaaGreatDoorW.PrintLast Go.Proofs.YtogpbandlpjccaaGreatDoorW.PrintMore
open Go.TX Go.Lib
abbrev bs (l : List UInt8) : ByteArray := ⟨l.toArray⟩
theorem bs_toList (s : ByteArray) : bs s.data.toList = s := by cases s with | mk d => rfl
theorem bs_append (l m : List UInt8) : bs l ++ bs m = bs (l ++ m) := by
  show (⟨l.toArray⟩ ++ ⟨m.toArray⟩ : ByteArray) = ⟨(l ++ m).toArray⟩
  rw [← bs_toList (⟨l.toArray⟩ ++ ⟨m.toArray⟩ : ByteArray)]
  simp
theorem bs_size (l : List UInt8) : (bs l).size = l.length := by simp [ByteArray.size]
theorem bs_list (l : List UInt8) : (bs l).toList = l := by rw [ByteArray.toList_eq]
theorem wrap_small {x : Int} (h0 : -9223372036854775808 ≤ x) (h1 : x ≤ 9223372036854775807) : wrap64 x = x := by unfold wrap64; omega
theorem ev_of_all {α : Type} {g : Nat → Option α} {r : α} (h : ∀ k, g (k + 1) = some r) : Ev g r := Ev.step (f := fun _ => some r) h (Ev.now r)
def i64 (x : Int) : Prop := -9223372036854775808 ≤ x ∧ x ≤ 9223372036854775807
theorem i64_nat {n : Nat} (h : n ≤ 1000000000000000000) : i64 (n : Int) := by unfold i64; omega
theorem fits_ {l m : List UInt8} (h : l.length + m.length ≤ 1000) : (bs l).size + (bs m).size ≤ 9223372036854775807 := by rw [bs_size, bs_size]; omega
theorem fits1_ {l : List UInt8} (h : l.length ≤ 1000) : (bs l).size + 1 ≤ 9223372036854775807 := by rw [bs_size]; omega
theorem itoa_le (n : Int) (h : i64 n) : (itoa n).length ≤ 21 := itoa_length_le n h.1 h.2
theorem decimal_f (n : Int) (h : i64 n) : impl_Decimal.f n = some (bs (itoa n)) := by
  unfold impl_Decimal.f strconv_FormatInt_197.f
  rw [if_pos rfl, if_pos (show _ ∧ _ from h)]; rfl
theorem ev_succ {α : Type} {g : Nat → Option α} {r : α} (K : Nat) (h : ∀ k, K ≤ k → g (k + 1) = some r) : Ev g r := ⟨K + 1, fun k hk => by
  obtain ⟨k, rfl⟩ : ∃ k', k = k' + 1 := ⟨k - 1, by omega⟩
  exact h k (by omega)⟩
def dt (d : Nat) (m : Int) : List UInt8 := sgn m ++ (decDigits (m.natAbs / 10 ^ d) ++ (if d = 0 then [] else 46 :: digs d (m.natAbs % 10 ^ d)))
theorem itoa_nat (n : Nat) : itoa (n : Int) = decDigits n := by rw [itoa_sgn]; unfold sgn; rw [if_neg (by omega)]; simp
theorem pow_loop (r : Int) : ∀ (j : Nat) (d i : Nat) (x : Int), i + j = d → d ≤ 9 → x = ((10 ^ i : Nat) : Int) → r = ((10 ^ d : Nat) : Int) → Ev (fun k => impl_powerOfTen.l0 k x d i) r
  | 0, d, i, x, h, hd, hx, hr => ev_of_all fun k => by
    simp only [impl_powerOfTen.l0]
    rw [if_neg (by omega), hx, hr, show i = d by omega]
  | j + 1, d, i, x, h, hd, hx, hr => by
    refine Ev.step (f := fun k => impl_powerOfTen.l0 k (x * 10) d ((i + 1 : Nat) : Int)) (fun k => ?_) (pow_loop r j d (i + 1) _ (by omega) hd (by rw [hx, Nat.pow_succ]; simp) hr)
    have hb : 10 ^ i ≤ 10 ^ 9 := Nat.pow_le_pow_right (by omega) (by omega)
    have hb' : 10 ^ i ≤ 1000000000 := hb
    generalize 10 ^ i = p at hx hb'
    simp only [impl_powerOfTen.l0]
    rw [if_pos (by omega), wrap_small (x := x * 10) (by omega) (by omega), wrap_small (x := (i : Int) + 1) (by omega) (by omega)]
    rfl
theorem power_ev (d : Nat) (hd : d ≤ 9) : Ev (fun k => impl_powerOfTen.f k d) ((10 ^ d : Nat) : Int) := pow_loop _ d d 0 1 (by omega) hd (by simp) rfl
theorem repeat_zero (n : Nat) (h : n ≤ 100) : strings_Repeat.f (⟨#[48]⟩ : ByteArray) (n : Int) = some (bs (List.replicate n 48)) := by
  unfold strings_Repeat.f
  rw [if_pos ⟨by omega, by omega, by rw [show (⟨#[48]⟩ : ByteArray).size = 1 from rfl]; simp; omega⟩]
  simp only [Int.toNat_natCast]
  congr 2
  show (repeatL (List.replicate 1 48) n).toArray = _
  rw [repeatL_replicate]; simp
theorem digitsText_ev (m : Int) (d : Nat) (hd : d ≤ 9) (h : m.natAbs < 10 ^ 18) : Ev (fun k => impl_digitsText.f k m d) (bs (dt d m)) := by
  have h' : m.natAbs < 1000000000000000000 := h
  obtain ⟨K, hK⟩ := power_ev d hd
  have hp : 10 ^ d ≤ 10 ^ 9 := Nat.pow_le_pow_right (by omega) hd
  have hp' : 10 ^ d ≤ 1000000000 := hp
  have hp0 : 0 < 10 ^ d := Nat.pow_pos (by omega)
  generalize hP : 10 ^ d = P at hK hp' hp0
  have core : ∀ k, K ≤ k → impl_digitsText.j0 (k + 1) (m.natAbs : Int) d (bs (sgn m)) = some (bs (dt d m)) := by
    intro k hk
    have e := hK k hk
    simp only at e
    have hq : m.natAbs / P ≤ m.natAbs := Nat.div_le_self _ _
    have hr : m.natAbs % P < P := Nat.mod_lt _ hp0
    have htd : Int.tdiv (m.natAbs : Int) (P : Int) = ((m.natAbs / P : Nat) : Int) := (Int.ofNat_tdiv _ P).symm
    have htm : Int.tmod (m.natAbs : Int) (P : Int) = ((m.natAbs % P : Nat) : Int) := (Int.ofNat_tmod _ P).symm
    have hs : (sgn m).length ≤ 1 := by unfold sgn; split <;> simp
    have i1 : i64 ((m.natAbs / P : Nat) : Int) := i64_nat (Nat.le_trans hq (by omega))
    have i2 : i64 ((m.natAbs % P : Nat) : Int) := i64_nat (Nat.le_trans (Nat.le_of_lt hr) (by omega))
    have l1 := itoa_le _ i1
    have l2 := itoa_le _ i2
    simp only [impl_digitsText.j0]
    have hP0 : ¬ ((P : Int) = 0) := by omega
    rw [e, Option.bind_some, if_neg hP0, htd, htm, wrap_small i1.1 i1.2, decimal_f _ i1, Option.bind_some, decimal_f _ i2, Option.bind_some]
    rw [itoa_nat] at l1 l2 ⊢
    rw [itoa_nat, if_pos (fits_ (by omega))]
    simp only [bs_append]
    by_cases h0 : d = 0
    · rw [if_pos (by omega)]
      simp [dt, h0]
      subst h0
      simp at hP
      subst hP
      simp
    · have hlen : (decDigits (m.natAbs % P)).length ≤ d := dec_length_le _ d (by omega) (by rw [hP]; exact hr)
      have hw : wrap64 ((d : Int) - ((bs (decDigits (m.natAbs % P))).size : Int)) = ((d - (decDigits (m.natAbs % P)).length : Nat) : Int) := by
        rw [bs_size, wrap_small (by omega) (by omega)]; omega
      rw [if_neg (by omega), if_pos (fits1_ (by simp; omega)), hw, repeat_zero _ (by omega), Option.bind_some, if_pos (fits_ (by simp; omega)), if_pos (fits_ (by simp; omega))]
      have hpd := pad_digs d (m.natAbs % P) (by omega) (by rw [hP]; exact hr)
      simp only [dt, h0, if_false, hP, ← hpd, pad, bs_append]
      simp
  refine ⟨K + 1, fun k hk => ?_⟩
  obtain ⟨k, rfl⟩ : ∃ k', k = k' + 1 := ⟨k - 1, by omega⟩
  have hc := core k (by omega)
  simp only [impl_digitsText.f]
  by_cases hn : m < 0
  · have ha : wrap64 (-m) = (m.natAbs : Int) := by rw [wrap_small (by omega) (by omega)]; omega
    have hsg : sgn m = [45] := by unfold sgn; rw [if_pos hn]
    rw [hsg] at hc
    rw [if_pos hn, ha]
    exact hc
  · have ha : (m.natAbs : Int) = m := by omega
    have hsg : sgn m = [] := by unfold sgn; rw [if_neg hn]
    rw [hsg, ha] at hc
    rw [if_neg hn]
    exact hc
theorem dt_len (m : Int) (h : m.natAbs < 10 ^ 18) : (dt 7 m).length ≤ 40 := by
  have h' : m.natAbs < 1000000000000000000 := h
  have i1 : i64 ((m.natAbs / 10000000 : Nat) : Int) := by unfold i64; omega
  have l1 := itoa_le _ i1
  rw [itoa_nat] at l1
  have hs : (sgn m).length ≤ 1 := by unfold sgn; split <;> simp
  have hg := digs_length 7 (m.natAbs % 10000000)
  simp [dt]
  omega
def okP (lat lon : Int) : Bool := decide (-900000000 ≤ lat ∧ lat ≤ 900000000 ∧ -1800000000 < lon ∧ lon ≤ 1800000000)
theorem validP_f (a b : Int) : impl_ValidPoint.f a b = some (okP a b) := by
  unfold impl_ValidPoint.f okP
  congr 1
  rw [Bool.eq_iff_iff, Go.G880.ValidPoint_eq, Go.G880.l11Ok_iff, decide_eq_true_iff]
  simp only
  omega
theorem okP_small {a b : Int} (h : okP a b = true) : a.natAbs < 10 ^ 18 ∧ b.natAbs < 10 ^ 18 := by
  simp only [okP, decide_eq_true_eq] at h
  show a.natAbs < 1000000000000000000 ∧ b.natAbs < 1000000000000000000
  omega
def ptext (a b : Int) : List UInt8 := dt 7 a ++ [32] ++ dt 7 b
def PText (a b : Int) : List UInt8 := if okP a b = true then ptext a b else []
theorem implPText_ev (a b : Int) : Ev (fun k => impl_PointText.f k a b) (bs (PText a b)) := by
  unfold impl_PointText.f PText
  by_cases h : okP a b = true
  · obtain ⟨h1, h2⟩ := okP_small h
    obtain ⟨K1, hK1⟩ := digitsText_ev a 7 (by omega) h1
    obtain ⟨K2, hK2⟩ := digitsText_ev b 7 (by omega) h2
    have l1 := dt_len a h1
    have l2 := dt_len b h2
    refine ⟨max K1 K2, fun k hk => ?_⟩
    have e1 := hK1 k (by omega)
    have e2 := hK2 k (by omega)
    simp only at e1 e2
    have e1' : impl_digitsText.f k a 7 = some (bs (dt 7 a)) := e1
    have e2' : impl_digitsText.f k b 7 = some (bs (dt 7 b)) := e2
    simp only [impl_pointText.f, impl_degreesText.f]
    rw [validP_f, Option.bind_some, if_pos h, if_pos h, e1', e2']
    simp only [Option.bind_some, bs_append]
    rw [if_pos (fits1_ (by omega)), if_pos (fits_ (by simp; omega))]
    rfl
  · refine ⟨0, fun k hk => ?_⟩
    simp only
    rw [validP_f, Option.bind_some, if_neg h, if_neg h]
def atextN (s : List UInt8) (N : Nat) : List UInt8 :=
  s ++ decDigits (N / 10000000) ++ [100] ++ digs 2 (N % 10000000 * 36 / 6000000) ++ [109] ++ digs 2 (N % 10000000 * 36 % 6000000 / 100000) ++ [46] ++ digs 5 (N % 10000000 * 36 % 100000) ++ [115]
def atext (n : Int) : List UInt8 := atextN (sgn n) n.natAbs
theorem abs_f (n : Int) (h : n.natAbs ≤ 1800000000) : impl_abs.f n = some (n.natAbs : Int) := by
  unfold impl_abs.f mx
  rw [wrap_small (by omega) (by omega)]
  split <;> (congr 1; omega)
theorem padded_f (x d : Nat) (hd : 0 < d) (hd9 : d ≤ 9) (h : x < 10 ^ d) : impl_padded.f (x : Int) (d : Int) = some (bs (digs d x)) := by
  have hp : 10 ^ d ≤ 10 ^ 9 := Nat.pow_le_pow_right (by omega) hd9
  have hp' : 10 ^ d ≤ 1000000000 := hp
  have i1 : i64 (x : Int) := i64_nat (by omega)
  have hlen := dec_length_le x d hd h
  unfold impl_padded.f
  rw [decimal_f _ i1, Option.bind_some, itoa_nat, bs_size, wrap_small (by omega) (by omega)]
  have hm : mx ((d : Int) - ((decDigits x).length : Int)) 0 = ((d - (decDigits x).length : Nat) : Int) := by
    unfold mx; split <;> omega
  rw [hm, repeat_zero _ (by omega), Option.bind_some, if_pos (by rw [bs_size]; simp; omega), bs_append, ← pad_digs d x hd h]
  rfl
theorem angle_core (n : Int) (N : Nat) (hab : impl_abs.f n = some (N : Int)) (h : N ≤ 1800000000) (k : Nat) (s : List UInt8) (hs : s.length ≤ 1) : impl_angleText.j0 (k + 1) n (bs s) = some (bs (atextN s N)) := by
  have i1 : i64 ((N / 10000000 : Nat) : Int) := i64_nat (by omega)
  have l1 := itoa_le _ i1
  rw [itoa_nat] at l1
  have g2 := digs_length 2 (N % 10000000 * 36 / 6000000)
  have g3 := digs_length 2 (N % 10000000 * 36 % 6000000 / 100000)
  have g4 := digs_length 5 (N % 10000000 * 36 % 100000)
  have hd : wrap64 (Int.tdiv (N : Int) 10000000) = ((N / 10000000 : Nat) : Int) := by
    rw [show Int.tdiv (N : Int) 10000000 = ((N / 10000000 : Nat) : Int) from (Int.ofNat_tdiv _ 10000000).symm, wrap_small i1.1 i1.2]
  have hr : wrap64 (Int.tmod (N : Int) 10000000 * 36) = ((N % 10000000 * 36 : Nat) : Int) := by
    rw [show Int.tmod (N : Int) 10000000 = ((N % 10000000 : Nat) : Int) from (Int.ofNat_tmod _ 10000000).symm, wrap_small (by omega) (by omega)]
    simp
  have hr1 : wrap64 (Int.tdiv ((N % 10000000 * 36 : Nat) : Int) 6000000) = ((N % 10000000 * 36 / 6000000 : Nat) : Int) := by
    rw [show Int.tdiv ((N % 10000000 * 36 : Nat) : Int) 6000000 = ((N % 10000000 * 36 / 6000000 : Nat) : Int) from (Int.ofNat_tdiv _ 6000000).symm, wrap_small (by omega) (by omega)]
  have hr2 : Int.tmod ((N % 10000000 * 36 : Nat) : Int) 6000000 = ((N % 10000000 * 36 % 6000000 : Nat) : Int) := (Int.ofNat_tmod _ 6000000).symm
  have hr3 : wrap64 (Int.tdiv ((N % 10000000 * 36 % 6000000 : Nat) : Int) 100000) = ((N % 10000000 * 36 % 6000000 / 100000 : Nat) : Int) := by
    rw [show Int.tdiv ((N % 10000000 * 36 % 6000000 : Nat) : Int) 100000 = ((N % 10000000 * 36 % 6000000 / 100000 : Nat) : Int) from (Int.ofNat_tdiv _ 100000).symm, wrap_small (by omega) (by omega)]
  have hr4 : Int.tmod ((N % 10000000 * 36 : Nat) : Int) 100000 = ((N % 10000000 * 36 % 100000 : Nat) : Int) := (Int.ofNat_tmod _ 100000).symm
  have p2 : impl_padded.f ((N % 10000000 * 36 / 6000000 : Nat) : Int) 2 = _ := padded_f (N % 10000000 * 36 / 6000000) 2 (by omega) (by omega) (by omega)
  have p3 : impl_padded.f ((N % 10000000 * 36 % 6000000 / 100000 : Nat) : Int) 2 = _ := padded_f (N % 10000000 * 36 % 6000000 / 100000) 2 (by omega) (by omega) (by omega)
  have p4 : impl_padded.f ((N % 10000000 * 36 % 100000 : Nat) : Int) 5 = _ := padded_f (N % 10000000 * 36 % 100000) 5 (by omega) (by omega) (by omega)
  have hr5 : Int.tmod ((N % 10000000 * 36 % 6000000 : Nat) : Int) 100000 = ((N % 10000000 * 36 % 100000 : Nat) : Int) := by
    rw [← hr2, tt_, hr4]
  simp only [impl_angleText.j0]
  rw [hab, Option.bind_some, Option.bind_some, hd, decimal_f _ i1, Option.bind_some, hr, hr1, p2, Option.bind_some, hr2, hr3, p3, Option.bind_some, hr5, p4, Option.bind_some, itoa_nat]
  rw [bs_append, bs_append, bs_append, bs_append, bs_append, bs_append, bs_append, bs_append]
  rw [if_pos (fits_ (by omega)), if_pos (fits1_ (by simp; omega)), if_pos (fits_ (by simp; omega)), if_pos (fits1_ (by simp; omega)), if_pos (fits_ (by simp; omega)), if_pos (fits1_ (by simp; omega)), if_pos (fits_ (by simp; omega)), if_pos (fits1_ (by simp; omega))]
  simp [atextN]
theorem angleText_ev (n : Int) (h : n.natAbs ≤ 1800000000) : Ev (fun k => impl_angleText.f k n) (bs (atext n)) := by
  have core := fun k s hs => angle_core n n.natAbs (abs_f n h) h k s hs
  refine ev_succ 0 fun k _ => ?_
  simp only [impl_angleText.f]
  by_cases hn : n < 0
  · have hsg : sgn n = [45] := by unfold sgn; rw [if_pos hn]
    rw [if_pos hn, atext, hsg]
    exact core k [45] (by simp)
  · have hsg : sgn n = [] := by unfold sgn; rw [if_neg hn]
    rw [if_neg hn, atext, hsg]
    exact core k [] (by simp)
end Go.Proofs.YtogpbandlpjccaaGreatDoor.TX
