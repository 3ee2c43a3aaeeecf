/- What the printed functions come to: texts of angles. -/
import Derived.Test.YtoncbpohjdackaaDoorQ2
import Derived.Test.YtoncbpohjdackaaDoorX6
set_option linter.unusedVariables false
set_option linter.unusedSimpArgs false
namespace Go.Proofs.YtoncbpohjdackaaDoor.TX
open Go.RowKit Go.Proofs.YtoncbpohjdackaaDoorW.PrintWords Go.Proofs.YtoncbpohjdackaaDoorW.PrintLast Go.Proofs.YtoncbpohjdackaaDoorW.PrintMore
open Go.TX Go.Lib

/-- The text of |n| = N. -/
def atextN (s : List UInt8) (N : Nat) : List UInt8 :=
  s ++ decDigits (N / 10000000) ++ [100] ++ digs 2 (N % 10000000 * 36 / 6000000) ++ [109] ++ digs 2 (N % 10000000 * 36 % 6000000 / 100000) ++ [46] ++ digs 5 (N % 10000000 * 36 % 100000) ++ [115]
def atext (n : Int) : List UInt8 := atextN (sgn n) n.natAbs

theorem parts_ev (s : List UInt8) (hs : s.length ≤ 1) (N : Nat) (h : N ≤ 1800000000) : Ev (fun k => spec_l11Parts.j0 k (N : Int) (bs s)) (bs (atextN s N)) := by
  have i1 : i64 ((N / 10000000 : Nat) : Int) := i64_nat (by omega)
  obtain ⟨K1, h1⟩ := l01Dec_ev _ i1.1 i1.2
  obtain ⟨K2, h2⟩ := l11Digits_ev (N % 10000000 * 36 / 6000000) 2 (by omega) (by omega)
  obtain ⟨K3, h3⟩ := l11Digits_ev (N % 10000000 * 36 % 6000000 / 100000) 2 (by omega) (by omega)
  obtain ⟨K4, h4⟩ := l11Digits_ev (N % 10000000 * 36 % 100000) 5 (by omega) (by omega)
  have l1 := itoa_le _ i1
  refine Ev.step (f := fun k => if K1 ≤ k ∧ K2 ≤ k ∧ K3 ≤ k ∧ K4 ≤ k then some (bs (atextN s N)) else spec_l11Parts.j0 (k + 1) (N : Int) (bs s)) (fun k => ?_) ⟨max K1 (max K2 (max K3 K4)), fun k hk => ?_⟩
  · split
    · rename_i hk
      obtain ⟨k1, k2, k3, k4⟩ := hk
      have e1 := h1 k k1
      have e2 : spec_l11Digits.f k ((N % 10000000 * 36 / 6000000 : Nat) : Int) 2 = _ := h2 k k2
      have e3 : spec_l11Digits.f k ((N % 10000000 * 36 % 6000000 / 100000 : Nat) : Int) 2 = _ := h3 k k3
      have e4 : spec_l11Digits.f k ((N % 10000000 * 36 % 100000 : Nat) : Int) 5 = _ := h4 k k4
      simp only at e1
      rw [itoa_nat] at e1 l1
      have g2 := digs_length 2 (N % 10000000 * 36 / 6000000)
      have g3 := digs_length 2 (N % 10000000 * 36 % 6000000 / 100000)
      have g4 := digs_length 5 (N % 10000000 * 36 % 100000)
      have hd : wrap64 (Int.tdiv (N : Int) 10000000) = ((N / 10000000 : Nat) : Int) := by
        rw [show Int.tdiv (N : Int) 10000000 = ((N / 10000000 : Nat) : Int) from (Int.ofNat_tdiv _ 10000000).symm, wrap_small i1.1 i1.2]
      have hr : wrap64 (Int.tmod (N : Int) 10000000 * 36) = ((N % 10000000 * 36 : Nat) : Int) := by
        rw [show Int.tmod (N : Int) 10000000 = ((N % 10000000 : Nat) : Int) from (Int.ofNat_tmod _ 10000000).symm, wrap_small (by omega) (by omega)]
        simp
      have hr1 : wrap64 (Int.tdiv ((N % 10000000 * 36 : Nat) : Int) 6000000) = ((N % 10000000 * 36 / 6000000 : Nat) : Int) := by
        rw [show Int.tdiv ((N % 10000000 * 36 : Nat) : Int) 6000000 = ((N % 10000000 * 36 / 6000000 : Nat) : Int) from (Int.ofNat_tdiv _ 6000000).symm, wrap_small (by omega) (by omega)]
      have hr2 : Int.tmod ((N % 10000000 * 36 : Nat) : Int) 6000000 = ((N % 10000000 * 36 % 6000000 : Nat) : Int) := (Int.ofNat_tmod _ 6000000).symm
      have hr3 : wrap64 (Int.tdiv ((N % 10000000 * 36 % 6000000 : Nat) : Int) 100000) = ((N % 10000000 * 36 % 6000000 / 100000 : Nat) : Int) := by
        rw [show Int.tdiv ((N % 10000000 * 36 % 6000000 : Nat) : Int) 100000 = ((N % 10000000 * 36 % 6000000 / 100000 : Nat) : Int) from (Int.ofNat_tdiv _ 100000).symm, wrap_small (by omega) (by omega)]
      have hr4 : Int.tmod ((N % 10000000 * 36 : Nat) : Int) 100000 = ((N % 10000000 * 36 % 100000 : Nat) : Int) := (Int.ofNat_tmod _ 100000).symm
      simp only [spec_l11Parts.j0, hd, hr, hr1, hr2, hr3, hr4, e1, e2, e3, e4, Option.bind_some, bs_append]
      rw [if_pos (fits_ (by omega)), if_pos (fits1_ (by simp; omega)), if_pos (fits_ (by simp; omega)), if_pos (fits1_ (by simp; omega)), if_pos (fits_ (by simp; omega)), if_pos (fits1_ (by simp; omega)), if_pos (fits_ (by simp; omega)), if_pos (fits1_ (by simp; omega))]
      simp [atextN]
    · rfl
  · show (if _ then _ else _) = _
    rw [if_pos (by omega)]
theorem ev_succ {α : Type} {g : Nat → Option α} {r : α} (K : Nat) (h : ∀ k, K ≤ k → g (k + 1) = some r) : Ev g r := ⟨K + 1, fun k hk => by
  obtain ⟨k, rfl⟩ : ∃ k', k = k' + 1 := ⟨k - 1, by omega⟩
  exact h k (by omega)⟩
theorem l11Parts_ev (n : Int) (h : n.natAbs ≤ 1800000000) : Ev (fun k => spec_l11Parts.f k n) (bs (atext n)) := by
  obtain ⟨K, hK⟩ := parts_ev (sgn n) (by unfold sgn; split <;> simp) n.natAbs h
  refine ⟨K, fun k hk => ?_⟩
  have e : spec_l11Parts.j0 k (n.natAbs : Int) (bs (sgn n)) = _ := hK k hk
  simp only [spec_l11Parts.f]
  by_cases hn : n < 0
  · have ha : wrap64 (-n) = (n.natAbs : Int) := by rw [wrap_small (by omega) (by omega)]; omega
    have hsg : sgn n = [45] := by unfold sgn; rw [if_pos hn]
    rw [hsg] at e
    rw [if_pos hn, ha, atext, hsg]
    exact e
  · have ha : (n.natAbs : Int) = n := by omega
    have hsg : sgn n = [] := by unfold sgn; rw [if_neg hn]
    rw [hsg, ha] at e
    rw [if_neg hn, atext, hsg]
    exact e
theorem abs_f (n : Int) (h : n.natAbs ≤ 1800000000) : impl_abs.f n = some (n.natAbs : Int) := by
  unfold impl_abs.f mx
  rw [wrap_small (by omega) (by omega)]
  split <;> (congr 1; omega)
theorem padded_f (x d : Nat) (hd : 0 < d) (hd9 : d ≤ 9) (h : x < 10 ^ d) : impl_padded.f (x : Int) (d : Int) = some (bs (digs d x)) := by
  have hp : 10 ^ d ≤ 10 ^ 9 := Nat.pow_le_pow_right (by omega) hd9
  have hp' : 10 ^ d ≤ 1000000000 := hp
  have i1 : i64 (x : Int) := i64_nat (by omega)
  have hlen := dec_length_le x d hd h
  unfold impl_padded.f
  rw [decimal_f _ i1, Option.bind_some, itoa_nat, bs_size, wrap_small (by omega) (by omega)]
  have hm : mx ((d : Int) - ((decDigits x).length : Int)) 0 = ((d - (decDigits x).length : Nat) : Int) := by
    unfold mx; split <;> omega
  rw [hm, repeat_zero _ (by omega), Option.bind_some, if_pos (by rw [bs_size]; simp; omega), bs_append, ← pad_digs d x hd h]
  rfl
theorem angle_core (n : Int) (N : Nat) (hab : impl_abs.f n = some (N : Int)) (h : N ≤ 1800000000) (k : Nat) (s : List UInt8) (hs : s.length ≤ 1) : impl_angleText.j0 (k + 1) n (bs s) = some (bs (atextN s N)) := by
  have i1 : i64 ((N / 10000000 : Nat) : Int) := i64_nat (by omega)
  have l1 := itoa_le _ i1
  rw [itoa_nat] at l1
  have g2 := digs_length 2 (N % 10000000 * 36 / 6000000)
  have g3 := digs_length 2 (N % 10000000 * 36 % 6000000 / 100000)
  have g4 := digs_length 5 (N % 10000000 * 36 % 100000)
  have hd : wrap64 (Int.tdiv (N : Int) 10000000) = ((N / 10000000 : Nat) : Int) := by
    rw [show Int.tdiv (N : Int) 10000000 = ((N / 10000000 : Nat) : Int) from (Int.ofNat_tdiv _ 10000000).symm, wrap_small i1.1 i1.2]
  have hr : wrap64 (Int.tmod (N : Int) 10000000 * 36) = ((N % 10000000 * 36 : Nat) : Int) := by
    rw [show Int.tmod (N : Int) 10000000 = ((N % 10000000 : Nat) : Int) from (Int.ofNat_tmod _ 10000000).symm, wrap_small (by omega) (by omega)]
    simp
  have hr1 : wrap64 (Int.tdiv ((N % 10000000 * 36 : Nat) : Int) 6000000) = ((N % 10000000 * 36 / 6000000 : Nat) : Int) := by
    rw [show Int.tdiv ((N % 10000000 * 36 : Nat) : Int) 6000000 = ((N % 10000000 * 36 / 6000000 : Nat) : Int) from (Int.ofNat_tdiv _ 6000000).symm, wrap_small (by omega) (by omega)]
  have hr2 : Int.tmod ((N % 10000000 * 36 : Nat) : Int) 6000000 = ((N % 10000000 * 36 % 6000000 : Nat) : Int) := (Int.ofNat_tmod _ 6000000).symm
  have hr3 : wrap64 (Int.tdiv ((N % 10000000 * 36 % 6000000 : Nat) : Int) 100000) = ((N % 10000000 * 36 % 6000000 / 100000 : Nat) : Int) := by
    rw [show Int.tdiv ((N % 10000000 * 36 % 6000000 : Nat) : Int) 100000 = ((N % 10000000 * 36 % 6000000 / 100000 : Nat) : Int) from (Int.ofNat_tdiv _ 100000).symm, wrap_small (by omega) (by omega)]
  have hr4 : Int.tmod ((N % 10000000 * 36 : Nat) : Int) 100000 = ((N % 10000000 * 36 % 100000 : Nat) : Int) := (Int.ofNat_tmod _ 100000).symm
  have p2 : impl_padded.f ((N % 10000000 * 36 / 6000000 : Nat) : Int) 2 = _ := padded_f (N % 10000000 * 36 / 6000000) 2 (by omega) (by omega) (by omega)
  have p3 : impl_padded.f ((N % 10000000 * 36 % 6000000 / 100000 : Nat) : Int) 2 = _ := padded_f (N % 10000000 * 36 % 6000000 / 100000) 2 (by omega) (by omega) (by omega)
  have p4 : impl_padded.f ((N % 10000000 * 36 % 100000 : Nat) : Int) 5 = _ := padded_f (N % 10000000 * 36 % 100000) 5 (by omega) (by omega) (by omega)
  have hr5 : Int.tmod ((N % 10000000 * 36 % 6000000 : Nat) : Int) 100000 = ((N % 10000000 * 36 % 100000 : Nat) : Int) := by
    rw [← hr2, tt_, hr4]
  simp only [impl_angleText.j0]
  rw [hab, Option.bind_some, Option.bind_some, hd, decimal_f _ i1, Option.bind_some, hr, hr1, p2, Option.bind_some, hr2, hr3, p3, Option.bind_some, hr5, p4, Option.bind_some, itoa_nat]
  rw [bs_append, bs_append, bs_append, bs_append, bs_append, bs_append, bs_append, bs_append]
  rw [if_pos (fits_ (by omega)), if_pos (fits1_ (by simp; omega)), if_pos (fits_ (by simp; omega)), if_pos (fits1_ (by simp; omega)), if_pos (fits_ (by simp; omega)), if_pos (fits1_ (by simp; omega)), if_pos (fits_ (by simp; omega)), if_pos (fits1_ (by simp; omega))]
  simp [atextN]
theorem angleText_ev (n : Int) (h : n.natAbs ≤ 1800000000) : Ev (fun k => impl_angleText.f k n) (bs (atext n)) := by
  have core := fun k s hs => angle_core n n.natAbs (abs_f n h) h k s hs
  refine ev_succ 0 fun k _ => ?_
  simp only [impl_angleText.f]
  by_cases hn : n < 0
  · have hsg : sgn n = [45] := by unfold sgn; rw [if_pos hn]
    rw [if_pos hn, atext, hsg]
    exact core k [45] (by simp)
  · have hsg : sgn n = [] := by unfold sgn; rw [if_neg hn]
    rw [if_neg hn, atext, hsg]
    exact core k [] (by simp)
theorem lawAngleText (n : Int) : ∃ k, laws_FnExactAngleText.f k n = some true := by
  by_cases h : n.natAbs ≤ 1800000000
  · obtain ⟨K1, hK1⟩ := l11Parts_ev n h
    obtain ⟨K2, hK2⟩ := angleText_ev n h
    refine ⟨max K1 K2, ?_⟩
    have e1 := hK1 (max K1 K2) (by omega)
    have e2 := hK2 (max K1 K2) (by omega)
    simp only at e1 e2
    have hi : spec_l00In.f n (-1800000000) 1800000000 = some true := by unfold spec_l00In.f; rw [if_pos (by omega), decide_eq_true (by omega)]
    have hi' : impl_within.f n (-1800000000) 1800000000 = some true := hi
    simp only [laws_FnExactAngleText.f, spec_AngleText.f, impl_AngleText.f, hi, hi', Option.bind_some, if_true, e1, e2]
  · have hi : spec_l00In.f n (-1800000000) 1800000000 = some false := by
      unfold spec_l00In.f
      by_cases h2 : n ≥ -1800000000
      · rw [if_pos h2, decide_eq_false (by omega)]
      · rw [if_neg h2]
    have hi' : impl_within.f n (-1800000000) 1800000000 = some false := hi
    refine ⟨0, ?_⟩
    simp only [laws_FnExactAngleText.f, spec_AngleText.f, impl_AngleText.f, hi, hi', Option.bind_some]
    simp
end Go.Proofs.YtoncbpohjdackaaDoor.TX
