/- What the printed functions come to, as far as lawReadAngle needs it. -/
import Derived.Test.YtoncbpohjdackaaDoorXA4
import Derived.Lib.ItoaLen
import Derived.Lib.Bytes
import Derived.Lib.SlTrimSet
set_option linter.unusedVariables false
set_option linter.unusedSimpArgs false
namespace Go.Proofs.YtoncbpohjdackaaDoor.TX
open Go.RowKit Go.Proofs.YtoncbpohjdackaaDoorW.PrintWords Go.Proofs.YtoncbpohjdackaaDoorW.PrintLast Go.Proofs.YtoncbpohjdackaaDoorW.PrintMore
open Go.TX Go.Lib
abbrev bs (l : List UInt8) : ByteArray := ⟨l.toArray⟩
def ints (l : List UInt8) : List Int := l.map fun b => (b.toNat : Int)
theorem bs_toList (s : ByteArray) : bs s.data.toList = s := by cases s with | mk d => rfl
theorem bs_append (l m : List UInt8) : bs l ++ bs m = bs (l ++ m) := by
  show (⟨l.toArray⟩ ++ ⟨m.toArray⟩ : ByteArray) = ⟨(l ++ m).toArray⟩
  rw [← bs_toList (⟨l.toArray⟩ ++ ⟨m.toArray⟩ : ByteArray)]
  simp
theorem bs_size (l : List UInt8) : (bs l).size = l.length := by simp [ByteArray.size]
theorem bs_list (l : List UInt8) : (bs l).toList = l := by rw [ByteArray.toList_eq]
theorem ints_append (l m : List UInt8) : ints (l ++ m) = ints l ++ ints m := by simp [ints]
theorem ints_length (l : List UInt8) : (ints l).length = l.length := by simp [ints]
theorem str_ints (l : List UInt8) : strOfNums (ints l) = bs l := by
  rw [← bs_toList (strOfNums (ints l))]
  congr 1
  rw [← ByteArray.toList_eq, Lib.strOfNums_toList]
  unfold Lib.bytesOf ints
  rw [List.map_map]
  exact (List.map_congr_left (g := id) (fun b _ => by simp)).trans (List.map_id l)
theorem wrap_small {x : Int} (h0 : -9223372036854775808 ≤ x) (h1 : x ≤ 9223372036854775807) : wrap64 x = x := by unfold wrap64; omega
theorem dig_int (n : Nat) (h : n < 10) : (wrap64 (48 + (n : Int))) % 256 = ((UInt8.ofNat (48 + n)).toNat : Int) := by
  rw [wrap_small (by omega) (by omega), UInt8.toNat_ofNat']
  omega
theorem l01Dec_loop (x0 : Int) (r : ByteArray) : ∀ (m : Nat) (x3 : List Int) (x4 : Int), x4.natAbs = m → 0 < m → m ≤ 9223372036854775808 → -9223372036854775808 ≤ x4 → x4 ≤ 9223372036854775807 → x3.length + (decDigits m).length ≤ 100 →
    Ev (fun k => spec_l01Dec.l0 k x0 (ints (decDigits m) ++ x3) 0) r → Ev (fun k => spec_l01Dec.l0 k x0 x3 x4) r := by
  intro m
  induction m using Nat.strongRecOn with
  | _ m ih =>
    intro x3 x4 hx hm hm2 hl hh hlen hev
    have hne : ¬ x4 = 0 := by omega
    -- the digit and the rest
    have hd : ∃ d q : Nat, d = m % 10 ∧ q = m / 10 ∧ ((Int.tmod x4 10 < 0 ∧ Int.tmod x4 10 = -(d : Int)) ∨ (¬ Int.tmod x4 10 < 0 ∧ Int.tmod x4 10 = (d : Int))) ∧ (Int.tdiv x4 10).natAbs = q ∧ -9223372036854775808 ≤ Int.tdiv x4 10 ∧ Int.tdiv x4 10 ≤ 9223372036854775807 := by
      refine ⟨m % 10, m / 10, rfl, rfl, ?_, ?_, ?_, ?_⟩
      · rcases Int.natAbs_eq x4 with h | h
        · rw [hx] at h
          rw [h]
          right
          have : Int.tmod (m : Int) 10 = ((m % 10 : Nat) : Int) := (Int.ofNat_tmod m 10).symm
          rw [this]; constructor <;> omega
        · rw [hx] at h
          rw [h]
          have : Int.tmod (-(m : Int)) 10 = -((m % 10 : Nat) : Int) := by rw [Int.neg_tmod]; exact congrArg Neg.neg (Int.ofNat_tmod m 10).symm
          rw [this]
          by_cases h0 : m % 10 = 0
          · right; rw [h0]; constructor <;> simp
          · left; constructor <;> omega
      · rw [Int.natAbs_tdiv, hx]; rfl
      · have : (Int.tdiv x4 10).natAbs = m / 10 := by rw [Int.natAbs_tdiv, hx]; rfl
        omega
      · have : (Int.tdiv x4 10).natAbs = m / 10 := by rw [Int.natAbs_tdiv, hx]; rfl
        omega
    obtain ⟨d, q, hd1, hq1, hsgn, hq, hq2, hq3⟩ := hd
    have hlen1 : 1 + x3.length < 140737488355328 := by omega
    have hstep : ∀ k, spec_l01Dec.l0 (k + 1) x0 x3 x4 = spec_l01Dec.l0 k x0 (((UInt8.ofNat (48 + d)).toNat : Int) :: x3) (Int.tdiv x4 10) := by
      intro k
      rcases hsgn with ⟨h1, h2⟩ | ⟨h1, h2⟩
      · simp only [spec_l01Dec.l0]
        rw [if_neg hne, if_pos h1, Option.bind_some, if_pos (by simpa using hlen1), wrap_small hq2 hq3, h2, Int.neg_neg, wrap_small (x := (d : Int)) (by omega) (by omega), dig_int d (by omega)]
        rfl
      · simp only [spec_l01Dec.l0]
        rw [if_neg hne, if_neg h1, Option.bind_some, if_pos (by simpa using hlen1), wrap_small hq2 hq3, h2, dig_int d (by omega)]
        rfl
    refine Ev.step hstep ?_
    by_cases h10 : m < 10
    · have hq0 : Int.tdiv x4 10 = 0 := by omega
      rw [hq0]
      have : ints (decDigits m) = [((UInt8.ofNat (48 + d)).toNat : Int)] := by rw [decDigits_one h10, hd1, Nat.mod_eq_of_lt h10]; rfl
      rw [this] at hev
      exact hev
    · have hdec : decDigits m = decDigits q ++ [UInt8.ofNat (48 + d)] := by rw [decDigits, dif_neg h10, hd1, hq1]
      refine ih q (by omega) _ _ hq (by omega) (by omega) hq2 hq3 ?_ ?_
      · rw [hdec] at hlen
        simp only [List.length_cons, List.length_append, List.length_nil] at hlen ⊢
        omega
      · rw [hdec, ints_append] at hev
        have : (ints (decDigits q) ++ ints [UInt8.ofNat (48 + d)]) ++ x3 = ints (decDigits q) ++ ((UInt8.ofNat (48 + d)).toNat : Int) :: x3 := by simp [ints]
        rw [this] at hev
        exact hev
theorem ev_of_all {α : Type} {g : Nat → Option α} {r : α} (h : ∀ k, g (k + 1) = some r) : Ev g r := Ev.step (f := fun _ => some r) h (Ev.now r)
theorem l01Dec_ev (n : Int) (h0 : -9223372036854775808 ≤ n) (h1 : n ≤ 9223372036854775807) : Ev (fun k => spec_l01Dec.f k n) (bs (itoa n)) := by
  unfold spec_l01Dec.f
  by_cases hz : n = 0
  · subst hz
    refine ev_of_all fun k => ?_
    simp only [spec_l01Dec.l0]
    rw [if_pos trivial]
    rw [if_pos (by rfl), itoa, if_neg (by omega)]
    rw [show (0 : Int).toNat = 0 from rfl, decDigits_one (by omega)]
    rfl
  · have hle := itoa_length_le n h0 h1
    rw [itoa_sgn, List.length_append] at hle
    refine l01Dec_loop n _ n.natAbs [] n rfl (by omega) (by omega) h0 h1 (by simp; omega) ?_
    rw [List.append_nil]
    have hpos := dec_length_pos n.natAbs
    refine ev_of_all fun k => ?_
    simp only [spec_l01Dec.l0]
    have hl : ((ints (decDigits n.natAbs)).length : Int) ≠ 0 := by rw [ints_length]; omega
    rw [if_pos trivial, if_neg hl, str_ints, bs_size, itoa_sgn]
    by_cases hn : n < 0
    · rw [if_pos hn, if_pos (by omega)]
      unfold sgn
      rw [if_pos hn]
      exact congrArg some (bs_append [45] _)
    · rw [if_neg hn]
      unfold sgn
      rw [if_neg hn, List.nil_append]
def i64 (x : Int) : Prop := -9223372036854775808 ≤ x ∧ x ≤ 9223372036854775807
theorem i64_nat {n : Nat} (h : n ≤ 1000000000000000000) : i64 (n : Int) := by unfold i64; omega
theorem fits_ {l m : List UInt8} (h : l.length + m.length ≤ 1000) : (bs l).size + (bs m).size ≤ 9223372036854775807 := by rw [bs_size, bs_size]; omega
theorem fits1_ {l : List UInt8} (h : l.length ≤ 1000) : (bs l).size + 1 ≤ 9223372036854775807 := by rw [bs_size]; omega
theorem itoa_le (n : Int) (h : i64 n) : (itoa n).length ≤ 21 := itoa_length_le n h.1 h.2
theorem decimal_f (n : Int) (h : i64 n) : impl_Decimal.f n = some (bs (itoa n)) := by
  unfold impl_Decimal.f strconv_FormatInt_65.f
  rw [if_pos rfl, if_pos (show _ ∧ _ from h)]; rfl
theorem ev_succ {α : Type} {g : Nat → Option α} {r : α} (K : Nat) (h : ∀ k, K ≤ k → g (k + 1) = some r) : Ev g r := ⟨K + 1, fun k hk => by
  obtain ⟨k, rfl⟩ : ∃ k', k = k' + 1 := ⟨k - 1, by omega⟩
  exact h k (by omega)⟩
theorem digits_loop (r : ByteArray) : ∀ (j n : Nat) (l : List UInt8), n ≤ 9223372036854775807 → j ≤ 100 → l.length ≤ 900 → r = bs (digs j n ++ l) → j + l.length ≤ 900 → Ev (fun k => spec_l11Digits.l0 k n j (bs l)) r
  | 0, n, l, hn, hj, hl, hr, _ => ev_of_all fun k => by simp only [spec_l11Digits.l0]; rw [if_neg (by omega), hr]; rfl
  | j + 1, n, l, hn, hj, hl, hr, hjl => by
    have ht : Int.tmod (n : Int) 10 = ((n % 10 : Nat) : Int) := (Int.ofNat_tmod n 10).symm
    have hd : Int.tdiv (n : Int) 10 = ((n / 10 : Nat) : Int) := (Int.ofNat_tdiv n 10).symm
    refine Ev.step (f := fun k => spec_l11Digits.l0 k ((n / 10 : Nat) : Int) (j : Int) (bs (UInt8.ofNat (48 + n % 10) :: l))) (fun k => ?_) (digits_loop r j (n / 10) _ (by omega) (by omega) (by simp; omega) (by rw [hr, digs]; simp) (by simp; omega))
    simp only [spec_l11Digits.l0]
    rw [if_pos (by omega), Option.bind_some, ht, hd, wrap_small (x := ((n / 10 : Nat) : Int)) (by omega) (by omega), wrap_small (x := ((j + 1 : Nat) : Int) - 1) (by omega) (by omega), dig_int _ (by omega)]
    rw [show [((UInt8.ofNat (48 + n % 10)).toNat : Int)] = ints [UInt8.ofNat (48 + n % 10)] from rfl, str_ints, if_pos (fits_ (by simp; omega)), bs_append]
    rw [show ((j + 1 : Nat) : Int) - 1 = j by omega]
    rfl
theorem l11Digits_ev (n : Nat) (j : Nat) (hn : n ≤ 9223372036854775807) (hj : j ≤ 100) : Ev (fun k => spec_l11Digits.f k n j) (bs (digs j n)) :=
  digits_loop _ j n [] hn hj (by simp) (by simp) (by simp; omega)
theorem itoa_nat (n : Nat) : itoa (n : Int) = decDigits n := by rw [itoa_sgn]; unfold sgn; rw [if_neg (by omega)]; simp
theorem repeat_zero (n : Nat) (h : n ≤ 100) : strings_Repeat.f (⟨#[48]⟩ : ByteArray) (n : Int) = some (bs (List.replicate n 48)) := by
  unfold strings_Repeat.f
  rw [if_pos ⟨by omega, by omega, by rw [show (⟨#[48]⟩ : ByteArray).size = 1 from rfl]; simp; omega⟩]
  simp only [Int.toNat_natCast]
  congr 2
  show (repeatL (List.replicate 1 48) n).toArray = _
  rw [repeatL_replicate]; simp
def digs10 : List UInt8 := [48, 49, 50, 51, 52, 53, 54, 55, 56, 57]
theorem contains_digs (b : UInt8) : digs10.contains b = isD b := by
  have key : ∀ n : UInt8, (b == n) = decide (b.toNat = n.toNat) := fun n => by
    by_cases h : b = n
    · subst h; simp
    · rw [beq_eq_false_iff_ne.2 h, decide_eq_false]
      exact fun h' => h (UInt8.toNat_inj.1 h')
  rw [Bool.eq_iff_iff]
  unfold digs10 isD
  simp only [List.contains_cons, key, Bool.or_eq_true, Bool.and_eq_true, decide_eq_true_eq, List.contains_nil]
  simp only [show (48 : UInt8).toNat = 48 from rfl, show (49 : UInt8).toNat = 49 from rfl, show (50 : UInt8).toNat = 50 from rfl, show (51 : UInt8).toNat = 51 from rfl, show (52 : UInt8).toNat = 52 from rfl, show (53 : UInt8).toNat = 53 from rfl, show (54 : UInt8).toNat = 54 from rfl, show (55 : UInt8).toNat = 55 from rfl, show (56 : UInt8).toNat = 56 from rfl, show (57 : UInt8).toNat = 57 from rfl]
  constructor
  · intro h; simp at h; omega
  · intro h; simp; omega
theorem dropWhile_nil {p : UInt8 → Bool} : ∀ {l : List UInt8}, l.dropWhile p = [] → l.all p = true
  | [], _ => rfl
  | b :: l, h => by
    by_cases hb : p b = true
    · rw [List.dropWhile_cons_of_pos hb] at h
      simp [hb, dropWhile_nil h]
    · rw [List.dropWhile_cons_of_neg hb] at h; cases h
theorem dropWhile_all {p : UInt8 → Bool} : ∀ {l : List UInt8}, l.all p = true → l.dropWhile p = []
  | [], _ => rfl
  | b :: l, h => by
    simp only [List.all_cons, Bool.and_eq_true] at h
    rw [List.dropWhile_cons_of_pos h.1, dropWhile_all h.2]
theorem dropWhile_head {p : UInt8 → Bool} : ∀ {l : List UInt8}, (l.dropWhile p).all p = true → l.dropWhile p = []
  | [], _ => rfl
  | b :: l, h => by
    by_cases hb : p b = true
    · rw [List.dropWhile_cons_of_pos hb] at h ⊢; exact dropWhile_head h
    · rw [List.dropWhile_cons_of_neg hb] at h
      simp [hb] at h
theorem trimS_nil (l : List UInt8) : (trimS l digs10 = []) ↔ l.all isD = true := by
  have hp : (fun x => digs10.contains x) = isD := funext contains_digs
  unfold trimS trimLeftS trimRightS
  rw [hp]
  constructor
  · intro h
    have h1 := dropWhile_nil h
    rw [List.all_reverse] at h1
    have h2 := dropWhile_head h1
    have h3 := dropWhile_nil h2
    rwa [List.all_reverse] at h3
  · intro h
    rw [dropWhile_all (l := l.reverse) (by rw [List.all_reverse]; exact h)]
    rfl
theorem unm_len' (l : List UInt8) : (unm l).length ≤ l.length := by
  cases l with
  | nil => exact Nat.le_refl _
  | cons b r => unfold unm; simp only; split <;> simp
theorem cut1_len' (c : UInt8) (l : List UInt8) : (cut1 c l).1.length ≤ l.length ∧ (cut1 c l).2.length ≤ l.length := by
  induction l with
  | nil => simp [cut1]
  | cons b l ih =>
    rw [cut1]
    split
    · simp
    · simp; omega
/-- The text of |n| = N. -/
def atextN (s : List UInt8) (N : Nat) : List UInt8 :=
  s ++ decDigits (N / 10000000) ++ [100] ++ digs 2 (N % 10000000 * 36 / 6000000) ++ [109] ++ digs 2 (N % 10000000 * 36 % 6000000 / 100000) ++ [46] ++ digs 5 (N % 10000000 * 36 % 100000) ++ [115]
def atext (n : Int) : List UInt8 := atextN (sgn n) n.natAbs
theorem parts_ev (s : List UInt8) (hs : s.length ≤ 1) (N : Nat) (h : N ≤ 1800000000) : Ev (fun k => spec_l11Parts.j0 k (N : Int) (bs s)) (bs (atextN s N)) := by
  have i1 : i64 ((N / 10000000 : Nat) : Int) := i64_nat (by omega)
  obtain ⟨K1, h1⟩ := l01Dec_ev _ i1.1 i1.2
  obtain ⟨K2, h2⟩ := l11Digits_ev (N % 10000000 * 36 / 6000000) 2 (by omega) (by omega)
  obtain ⟨K3, h3⟩ := l11Digits_ev (N % 10000000 * 36 % 6000000 / 100000) 2 (by omega) (by omega)
  obtain ⟨K4, h4⟩ := l11Digits_ev (N % 10000000 * 36 % 100000) 5 (by omega) (by omega)
  have l1 := itoa_le _ i1
  refine Ev.step (f := fun k => if K1 ≤ k ∧ K2 ≤ k ∧ K3 ≤ k ∧ K4 ≤ k then some (bs (atextN s N)) else spec_l11Parts.j0 (k + 1) (N : Int) (bs s)) (fun k => ?_) ⟨max K1 (max K2 (max K3 K4)), fun k hk => ?_⟩
  · split
    · rename_i hk
      obtain ⟨k1, k2, k3, k4⟩ := hk
      have e1 := h1 k k1
      have e2 : spec_l11Digits.f k ((N % 10000000 * 36 / 6000000 : Nat) : Int) 2 = _ := h2 k k2
      have e3 : spec_l11Digits.f k ((N % 10000000 * 36 % 6000000 / 100000 : Nat) : Int) 2 = _ := h3 k k3
      have e4 : spec_l11Digits.f k ((N % 10000000 * 36 % 100000 : Nat) : Int) 5 = _ := h4 k k4
      simp only at e1
      rw [itoa_nat] at e1 l1
      have g2 := digs_length 2 (N % 10000000 * 36 / 6000000)
      have g3 := digs_length 2 (N % 10000000 * 36 % 6000000 / 100000)
      have g4 := digs_length 5 (N % 10000000 * 36 % 100000)
      have hd : wrap64 (Int.tdiv (N : Int) 10000000) = ((N / 10000000 : Nat) : Int) := by
        rw [show Int.tdiv (N : Int) 10000000 = ((N / 10000000 : Nat) : Int) from (Int.ofNat_tdiv _ 10000000).symm, wrap_small i1.1 i1.2]
      have hr : wrap64 (Int.tmod (N : Int) 10000000 * 36) = ((N % 10000000 * 36 : Nat) : Int) := by
        rw [show Int.tmod (N : Int) 10000000 = ((N % 10000000 : Nat) : Int) from (Int.ofNat_tmod _ 10000000).symm, wrap_small (by omega) (by omega)]
        simp
      have hr1 : wrap64 (Int.tdiv ((N % 10000000 * 36 : Nat) : Int) 6000000) = ((N % 10000000 * 36 / 6000000 : Nat) : Int) := by
        rw [show Int.tdiv ((N % 10000000 * 36 : Nat) : Int) 6000000 = ((N % 10000000 * 36 / 6000000 : Nat) : Int) from (Int.ofNat_tdiv _ 6000000).symm, wrap_small (by omega) (by omega)]
      have hr2 : Int.tmod ((N % 10000000 * 36 : Nat) : Int) 6000000 = ((N % 10000000 * 36 % 6000000 : Nat) : Int) := (Int.ofNat_tmod _ 6000000).symm
      have hr3 : wrap64 (Int.tdiv ((N % 10000000 * 36 % 6000000 : Nat) : Int) 100000) = ((N % 10000000 * 36 % 6000000 / 100000 : Nat) : Int) := by
        rw [show Int.tdiv ((N % 10000000 * 36 % 6000000 : Nat) : Int) 100000 = ((N % 10000000 * 36 % 6000000 / 100000 : Nat) : Int) from (Int.ofNat_tdiv _ 100000).symm, wrap_small (by omega) (by omega)]
      have hr4 : Int.tmod ((N % 10000000 * 36 : Nat) : Int) 100000 = ((N % 10000000 * 36 % 100000 : Nat) : Int) := (Int.ofNat_tmod _ 100000).symm
      simp only [spec_l11Parts.j0, hd, hr, hr1, hr2, hr3, hr4, e1, e2, e3, e4, Option.bind_some, bs_append]
      rw [if_pos (fits_ (by omega)), if_pos (fits1_ (by simp; omega)), if_pos (fits_ (by simp; omega)), if_pos (fits1_ (by simp; omega)), if_pos (fits_ (by simp; omega)), if_pos (fits1_ (by simp; omega)), if_pos (fits_ (by simp; omega)), if_pos (fits1_ (by simp; omega))]
      simp [atextN]
    · rfl
  · show (if _ then _ else _) = _
    rw [if_pos (by omega)]
theorem l11Parts_ev (n : Int) (h : n.natAbs ≤ 1800000000) : Ev (fun k => spec_l11Parts.f k n) (bs (atext n)) := by
  obtain ⟨K, hK⟩ := parts_ev (sgn n) (by unfold sgn; split <;> simp) n.natAbs h
  refine ⟨K, fun k hk => ?_⟩
  have e : spec_l11Parts.j0 k (n.natAbs : Int) (bs (sgn n)) = _ := hK k hk
  simp only [spec_l11Parts.f]
  by_cases hn : n < 0
  · have ha : wrap64 (-n) = (n.natAbs : Int) := by rw [wrap_small (by omega) (by omega)]; omega
    have hsg : sgn n = [45] := by unfold sgn; rw [if_pos hn]
    rw [hsg] at e
    rw [if_pos hn, ha, atext, hsg]
    exact e
  · have ha : (n.natAbs : Int) = n := by omega
    have hsg : sgn n = [] := by unfold sgn; rw [if_neg hn]
    rw [hsg, ha] at e
    rw [if_neg hn, atext, hsg]
    exact e
theorem abs_f (n : Int) (h : n.natAbs ≤ 1800000000) : impl_abs.f n = some (n.natAbs : Int) := by
  unfold impl_abs.f mx
  rw [wrap_small (by omega) (by omega)]
  split <;> (congr 1; omega)
theorem padded_f (x d : Nat) (hd : 0 < d) (hd9 : d ≤ 9) (h : x < 10 ^ d) : impl_padded.f (x : Int) (d : Int) = some (bs (digs d x)) := by
  have hp : 10 ^ d ≤ 10 ^ 9 := Nat.pow_le_pow_right (by omega) hd9
  have hp' : 10 ^ d ≤ 1000000000 := hp
  have i1 : i64 (x : Int) := i64_nat (by omega)
  have hlen := dec_length_le x d hd h
  unfold impl_padded.f
  rw [decimal_f _ i1, Option.bind_some, itoa_nat, bs_size, wrap_small (by omega) (by omega)]
  have hm : mx ((d : Int) - ((decDigits x).length : Int)) 0 = ((d - (decDigits x).length : Nat) : Int) := by
    unfold mx; split <;> omega
  rw [hm, repeat_zero _ (by omega), Option.bind_some, if_pos (by rw [bs_size]; simp; omega), bs_append, ← pad_digs d x hd h]
  rfl
theorem angle_core (n : Int) (N : Nat) (hab : impl_abs.f n = some (N : Int)) (h : N ≤ 1800000000) (k : Nat) (s : List UInt8) (hs : s.length ≤ 1) : impl_angleText.j0 (k + 1) n (bs s) = some (bs (atextN s N)) := by
  have i1 : i64 ((N / 10000000 : Nat) : Int) := i64_nat (by omega)
  have l1 := itoa_le _ i1
  rw [itoa_nat] at l1
  have g2 := digs_length 2 (N % 10000000 * 36 / 6000000)
  have g3 := digs_length 2 (N % 10000000 * 36 % 6000000 / 100000)
  have g4 := digs_length 5 (N % 10000000 * 36 % 100000)
  have hd : wrap64 (Int.tdiv (N : Int) 10000000) = ((N / 10000000 : Nat) : Int) := by
    rw [show Int.tdiv (N : Int) 10000000 = ((N / 10000000 : Nat) : Int) from (Int.ofNat_tdiv _ 10000000).symm, wrap_small i1.1 i1.2]
  have hr : wrap64 (Int.tmod (N : Int) 10000000 * 36) = ((N % 10000000 * 36 : Nat) : Int) := by
    rw [show Int.tmod (N : Int) 10000000 = ((N % 10000000 : Nat) : Int) from (Int.ofNat_tmod _ 10000000).symm, wrap_small (by omega) (by omega)]
    simp
  have hr1 : wrap64 (Int.tdiv ((N % 10000000 * 36 : Nat) : Int) 6000000) = ((N % 10000000 * 36 / 6000000 : Nat) : Int) := by
    rw [show Int.tdiv ((N % 10000000 * 36 : Nat) : Int) 6000000 = ((N % 10000000 * 36 / 6000000 : Nat) : Int) from (Int.ofNat_tdiv _ 6000000).symm, wrap_small (by omega) (by omega)]
  have hr2 : Int.tmod ((N % 10000000 * 36 : Nat) : Int) 6000000 = ((N % 10000000 * 36 % 6000000 : Nat) : Int) := (Int.ofNat_tmod _ 6000000).symm
  have hr3 : wrap64 (Int.tdiv ((N % 10000000 * 36 % 6000000 : Nat) : Int) 100000) = ((N % 10000000 * 36 % 6000000 / 100000 : Nat) : Int) := by
    rw [show Int.tdiv ((N % 10000000 * 36 % 6000000 : Nat) : Int) 100000 = ((N % 10000000 * 36 % 6000000 / 100000 : Nat) : Int) from (Int.ofNat_tdiv _ 100000).symm, wrap_small (by omega) (by omega)]
  have hr4 : Int.tmod ((N % 10000000 * 36 : Nat) : Int) 100000 = ((N % 10000000 * 36 % 100000 : Nat) : Int) := (Int.ofNat_tmod _ 100000).symm
  have p2 : impl_padded.f ((N % 10000000 * 36 / 6000000 : Nat) : Int) 2 = _ := padded_f (N % 10000000 * 36 / 6000000) 2 (by omega) (by omega) (by omega)
  have p3 : impl_padded.f ((N % 10000000 * 36 % 6000000 / 100000 : Nat) : Int) 2 = _ := padded_f (N % 10000000 * 36 % 6000000 / 100000) 2 (by omega) (by omega) (by omega)
  have p4 : impl_padded.f ((N % 10000000 * 36 % 100000 : Nat) : Int) 5 = _ := padded_f (N % 10000000 * 36 % 100000) 5 (by omega) (by omega) (by omega)
  have hr5 : Int.tmod ((N % 10000000 * 36 % 6000000 : Nat) : Int) 100000 = ((N % 10000000 * 36 % 100000 : Nat) : Int) := by
    rw [← hr2, tt_, hr4]
  simp only [impl_angleText.j0]
  rw [hab, Option.bind_some, Option.bind_some, hd, decimal_f _ i1, Option.bind_some, hr, hr1, p2, Option.bind_some, hr2, hr3, p3, Option.bind_some, hr5, p4, Option.bind_some, itoa_nat]
  rw [bs_append, bs_append, bs_append, bs_append, bs_append, bs_append, bs_append, bs_append]
  rw [if_pos (fits_ (by omega)), if_pos (fits1_ (by simp; omega)), if_pos (fits_ (by simp; omega)), if_pos (fits1_ (by simp; omega)), if_pos (fits_ (by simp; omega)), if_pos (fits1_ (by simp; omega)), if_pos (fits_ (by simp; omega)), if_pos (fits1_ (by simp; omega))]
  simp [atextN]
theorem angleText_ev (n : Int) (h : n.natAbs ≤ 1800000000) : Ev (fun k => impl_angleText.f k n) (bs (atext n)) := by
  have core := fun k s hs => angle_core n n.natAbs (abs_f n h) h k s hs
  refine ev_succ 0 fun k _ => ?_
  simp only [impl_angleText.f]
  by_cases hn : n < 0
  · have hsg : sgn n = [45] := by unfold sgn; rw [if_pos hn]
    rw [if_pos hn, atext, hsg]
    exact core k [45] (by simp)
  · have hsg : sgn n = [] := by unfold sgn; rw [if_neg hn]
    rw [if_neg hn, atext, hsg]
    exact core k [] (by simp)
theorem bt_bs (l : List UInt8) (i : Nat) (h : i < l.length) : bt (bs l) (i : Int) = ((l[i]).toNat : Int) := by
  unfold bt
  have hs : (i : Int).toNat < (bs l).size := by rw [bs_size]; simpa using h
  rw [dif_pos hs]
  rfl
theorem bs_extract (l : List UInt8) (a b : Nat) : (bs l).extract a b = bs ((l.take b).drop a) := by
  rw [← bs_toList ((bs l).extract a b)]
  congr 2
  simp [ByteArray.data_extract, List.drop_take]
theorem bs_extract_end (l : List UInt8) (a : Nat) : (bs l).extract a (bs l).size = bs (l.drop a) := by
  rw [bs_extract, bs_size, List.take_length]
theorem isD_iff (b : UInt8) : isD b = true ↔ 48 ≤ b.toNat ∧ b.toNat ≤ 57 := by simp [isD]
theorem dec_cons (n : Nat) : ∃ b r, decDigits n = b :: r ∧ isD b = true := by
  have h := dec_isD n
  have h0 := dec_length_pos n
  cases hd : decDigits n with
  | nil => rw [hd] at h0; simp at h0
  | cons b r =>
    rw [hd] at h
    simp only [List.all_cons, Bool.and_eq_true] at h
    exact ⟨b, r, rfl, h.1⟩
theorem pow18 : (10 : Nat) ^ 18 = 1000000000000000000 := rfl
theorem val_lt18 (l : List UInt8) (h : l.all isD = true) (hl : l.length ≤ 18) : val 0 l < 1000000000000000000 := by
  have := val_lt l 0 h
  have h2 : 10 ^ l.length ≤ 10 ^ 18 := Nat.pow_le_pow_right (by omega) hl
  rw [pow18] at h2
  omega
theorem sub48 (b : UInt8) (h : isD b = true) : ((b.toNat : Int) - 48) % 256 = (dv b : Int) := by
  have := (isD_iff b).1 h
  unfold dv; omega
theorem split_loop (c : UInt8) (l : List UInt8) (hl : l.length ≤ 2000000) (r : List ByteArray) : ∀ (rest cur pre : List UInt8) (done : List ByteArray), l = pre ++ (cur ++ rest) → c ∉ cur → done.length ≤ pre.length + cur.length → r = done ++ (splitB c (cur ++ rest)).map bs →
    Ev (fun k => spec_l01Split.l0 k (bs l) (c.toNat : Int) done (pre.length : Nat) ((pre.length + cur.length : Nat) : Int)) r := by
  intro rest
  induction rest with
  | nil =>
    intro cur pre done hp hc hd hr
    rw [List.append_nil] at hp hr
    rw [split_none hc] at hr
    refine ev_of_all fun k => ?_
    have hlen : l.length = pre.length + cur.length := by rw [hp]; simp
    simp only [spec_l01Split.l0]
    rw [if_neg (by rw [bs_size]; omega), if_pos (by omega), if_pos (by rw [bs_size]; omega), if_pos (by omega), hr]
    congr 2
    simp only [Int.toNat_natCast, List.map_cons, List.map_nil]
    rw [bs_extract_end, hp]; simp
  | cons b rest ih =>
    intro cur pre done hp hc hd hr
    have hlen : l.length = pre.length + cur.length + (rest.length + 1) := by rw [hp]; simp; omega
    have hi : pre.length + cur.length < l.length := by omega
    have hb : bt (bs l) ((pre.length + cur.length : Nat) : Int) = (b.toNat : Int) := by
      rw [bt_bs l _ hi]
      congr 2
      simp [hp]
    by_cases hbc : b = c
    · subst hbc
      refine Ev.step (f := fun k => spec_l01Split.l0 k (bs l) (b.toNat : Int) (done ++ [bs cur]) (((pre ++ (cur ++ [b])).length : Nat) : Int) (((pre ++ (cur ++ [b])).length + ([] : List UInt8).length : Nat) : Int)) (fun k => ?_)
        (ih [] (pre ++ (cur ++ [b])) (done ++ [bs cur]) (by rw [hp]; simp) (by simp) (by simp; omega) (by rw [hr, split_app cur rest hc]; simp))
      simp only [spec_l01Split.l0]
      rw [if_pos (by rw [bs_size]; omega), if_pos (by omega), if_pos hb, if_pos (by omega), if_pos (by omega), if_pos (by rw [bs_size]; omega), if_pos (by omega), wrap_small (by omega) (by omega)]
      have he : (bs l).extract ((pre.length : Nat) : Int).toNat (((pre.length + cur.length : Nat) : Int)).toNat = bs cur := by
        simp only [Int.toNat_natCast]
        rw [bs_extract, hp]
        congr 2
        rw [show pre.length + cur.length = pre.length + cur.length from rfl, ← List.append_assoc, List.take_left' (by simp), List.drop_left]
      rw [he]
      congr 1 <;> simp <;> omega
    · refine Ev.step (f := fun k => spec_l01Split.l0 k (bs l) (c.toNat : Int) done (pre.length : Nat) ((pre.length + (cur ++ [b]).length : Nat) : Int)) (fun k => ?_)
        (ih (cur ++ [b]) pre done (by rw [hp]; simp) (by simp [hc, Ne.symm hbc]) (by simp; omega) (by rw [hr]; simp))
      simp only [spec_l01Split.l0]
      rw [if_pos (by rw [bs_size]; omega), if_pos (by omega), if_neg, wrap_small (by omega) (by omega)]
      · congr 1
        simp; omega
      · rw [hb]
        intro h
        exact hbc (UInt8.toNat_inj.1 (by omega))
theorem l01Split_ev (c : UInt8) (l : List UInt8) (hl : l.length ≤ 2000000) : Ev (fun k => spec_l01Split.f k (bs l) (c.toNat : Int)) ((splitB c l).map bs) :=
  split_loop c l hl _ l [] [] [] rfl (by simp) (by simp) (by simp)
/-- The number of an angle's parts. -/
def aval (d m s p : Nat) : Nat := d * 10000000 + (m * 6000000 + s * 100000 + p) / 36
def aneg (l : List UInt8) (n : Nat) : Int := if (unm l).length < l.length then -(n : Int) else n
def afin (l : List UInt8) (n : Int) : Int × Bool := if -1800000000 ≤ n ∧ n ≤ 1800000000 then (if atext n = l then (n, true) else (0, false)) else (0, false)
/-- The program's. -/
def implA (l : List UInt8) : Int × Bool :=
  let x := (cut1 100 (unm l)).1
  let y := (cut1 109 (cut1 100 (unm l)).2).1
  let z := (cut1 109 (cut1 100 (unm l)).2).2
  if 3 < x.length ∨ y.length ≠ 2 ∨ z.length ≠ 9 then (0, false)
  else if ¬ ((x ++ y ++ z.take 2 ++ (z.take 8).drop 3).all isD = true) then (0, false)
  else afin l (aneg l (aval (val 0 x) (val 0 y) (val 0 (z.take 2)) (val 0 ((z.take 8).drop 3))))
/-- A part's number. -/
def numA (l : List UInt8) : Nat × Bool := if l.length ≤ 9 ∧ l.all isD = true then (val 0 l, decide (l ≠ [])) else (0, false)
/-- The reference's. -/
def specA (l : List UInt8) : Int × Bool :=
  let x := (cut1 100 (unm l)).1
  let y := (cut1 109 (cut1 100 (unm l)).2).1
  let z := (cut1 109 (cut1 100 (unm l)).2).2
  if ¬ (100 ∈ unm l ∧ 100 ∉ (cut1 100 (unm l)).2) then (0, false)
  else if ¬ (109 ∈ (cut1 100 (unm l)).2 ∧ 109 ∉ z) then (0, false)
  else if z.length ≠ 9 then (0, false)
  else if (numA x).2 = true ∧ (numA y).2 = true ∧ (numA (z.take 2)).2 = true ∧ (numA ((z.take 8).drop 3)).2 = true ∧ (numA x).1 ≤ 180 then
    afin l (aneg l (aval (numA x).1 (numA y).1 (numA (z.take 2)).1 (numA ((z.take 8).drop 3)).1))
  else (0, false)
theorem afin_cases (l : List UInt8) (n : Int) : afin l n = (0, false) ∨ (afin l n = (n, true) ∧ l = atext n ∧ n.natAbs ≤ 1800000000) := by
  unfold afin
  split
  · rename_i h
    split
    · rename_i h2; exact .inr ⟨rfl, h2.symm, by omega⟩
    · exact .inl rfl
  · exact .inl rfl
theorem implA_cases (l : List UInt8) : implA l = (0, false) ∨ ∃ n : Int, implA l = (n, true) ∧ l = atext n ∧ n.natAbs ≤ 1800000000 := by
  unfold implA
  simp only
  split
  · exact .inl rfl
  · split
    · exact .inl rfl
    · rcases afin_cases l (aneg l (aval (val 0 (cut1 100 (unm l)).1) (val 0 (cut1 109 (cut1 100 (unm l)).2).1) (val 0 ((cut1 109 (cut1 100 (unm l)).2).2.take 2)) (val 0 (((cut1 109 (cut1 100 (unm l)).2).2.take 8).drop 3)))) with h | ⟨h, h2, h3⟩
      · exact .inl h
      · exact .inr ⟨_, h, h2, h3⟩
theorem specA_cases (l : List UInt8) : specA l = (0, false) ∨ ∃ n : Int, specA l = (n, true) ∧ l = atext n ∧ n.natAbs ≤ 1800000000 := by
  unfold specA
  simp only
  split
  · exact .inl rfl
  · split
    · exact .inl rfl
    · split
      · exact .inl rfl
      · split
        · rcases afin_cases l (aneg l (aval (numA (cut1 100 (unm l)).1).1 (numA (cut1 109 (cut1 100 (unm l)).2).1).1 (numA ((cut1 109 (cut1 100 (unm l)).2).2.take 2)).1 (numA (((cut1 109 (cut1 100 (unm l)).2).2.take 8).drop 3)).1)) with h | ⟨h, h2, h3⟩
          · exact .inl h
          · exact .inr ⟨_, h, h2, h3⟩
        · exact .inl rfl
theorem isD100 : isD 100 = false := by decide
theorem isD109 : isD 109 = false := by decide
def az (N : Nat) : List UInt8 := digs 2 (N % 10000000 * 36 % 6000000 / 100000) ++ 46 :: (digs 5 (N % 10000000 * 36 % 100000) ++ [115])
def arest (N : Nat) : List UInt8 := digs 2 (N % 10000000 * 36 / 6000000) ++ 109 :: az N
theorem atext_eq (n : Int) : atext n = sgn n ++ (decDigits (n.natAbs / 10000000) ++ 100 :: arest n.natAbs) := by
  unfold atext atextN arest az
  simp
theorem unm_atext (n : Int) : unm (atext n) = decDigits (n.natAbs / 10000000) ++ 100 :: arest n.natAbs := by
  rw [atext_eq]
  unfold sgn
  by_cases h : n < 0
  · rw [if_pos h]; simp [unm]
  · rw [if_neg h, List.nil_append]
    obtain ⟨b, r, e, hb⟩ := dec_cons (n.natAbs / 10000000)
    rw [e]
    have : b ≠ 45 := by intro h; subst h; simp [isD] at hb
    simp [unm, this]
theorem cut_x (n : Int) : cut1 100 (unm (atext n)) = (decDigits (n.natAbs / 10000000), arest n.natAbs) := by
  rw [unm_atext]; exact cut1_append _ (not_mem_of_all (dec_isD _) isD100)
theorem cut_y (N : Nat) : cut1 109 (arest N) = (digs 2 (N % 10000000 * 36 / 6000000), az N) := by
  unfold arest; exact cut1_append _ (not_mem_of_all (digs_isD _ _) isD109)
theorem az_len (N : Nat) : (az N).length = 9 := by
  unfold az
  have h1 := digs_length 2 (N % 10000000 * 36 % 6000000 / 100000)
  have h2 := digs_length 5 (N % 10000000 * 36 % 100000)
  simp; omega
theorem az_take (N : Nat) : (az N).take 2 = digs 2 (N % 10000000 * 36 % 6000000 / 100000) := by
  unfold az
  rw [List.take_left' (digs_length 2 _)]
theorem az_drop (N : Nat) : ((az N).take 8).drop 3 = digs 5 (N % 10000000 * 36 % 100000) := by
  rw [List.drop_take]
  unfold az
  have h1 := digs_length 2 (N % 10000000 * 36 % 6000000 / 100000)
  have h2 := digs_length 5 (N % 10000000 * 36 % 100000)
  have e : (digs 2 (N % 10000000 * 36 % 6000000 / 100000) ++ 46 :: (digs 5 (N % 10000000 * 36 % 100000) ++ [115])).drop 3 = digs 5 (N % 10000000 * 36 % 100000) ++ [115] := by
    rw [show digs 2 (N % 10000000 * 36 % 6000000 / 100000) ++ 46 :: (digs 5 (N % 10000000 * 36 % 100000) ++ [115]) = (digs 2 (N % 10000000 * 36 % 6000000 / 100000) ++ [46]) ++ (digs 5 (N % 10000000 * 36 % 100000) ++ [115]) by simp]
    rw [List.drop_left' (by simp; omega)]
  rw [e, List.take_left' (by omega)]
theorem aval_ok (N : Nat) (h : N ≤ 1800000000) : aval (N / 10000000) (N % 10000000 * 36 / 6000000) (N % 10000000 * 36 % 6000000 / 100000) (N % 10000000 * 36 % 100000) = N := by
  unfold aval; omega
theorem aneg_ok (n : Int) : aneg (atext n) n.natAbs = n := by
  unfold aneg
  rw [unm_atext, atext_eq]
  unfold sgn
  by_cases h : n < 0
  · rw [if_pos h, if_pos (by simp)]; omega
  · rw [if_neg h, if_neg (by simp)]; omega
theorem afin_ok (n : Int) (h : n.natAbs ≤ 1800000000) : afin (atext n) n = (n, true) := by
  unfold afin; rw [if_pos (by omega), if_pos rfl]
theorem implA_ok (n : Int) (h : n.natAbs ≤ 1800000000) : implA (atext n) = (n, true) := by
  have hx := dec_length_le (n.natAbs / 10000000) 3 (by omega) (by show _ < 1000; omega)
  unfold implA
  simp only [cut_x, cut_y, az_len, az_take, az_drop, digs_length]
  rw [if_neg (by omega), if_neg (by simp [List.all_append, dec_isD, digs_isD]), val_dec, val_digs 2 _ 0 (by show _ < 100; omega), val_digs 2 _ 0 (by show _ < 100; omega), val_digs 5 _ 0 (by show _ < 100000; omega)]
  simp only [Nat.zero_mul, Nat.zero_add]
  rw [aval_ok _ h, aneg_ok, afin_ok n h]
theorem numA_digs (k v : Nat) (hk : 0 < k) (hk9 : k ≤ 9) (hv : v < 10 ^ k) : numA (digs k v) = (v, true) := by
  unfold numA
  rw [digs_length, if_pos ⟨hk9, digs_isD _ _⟩, val_digs k v 0 hv, decide_eq_true]
  · simp
  · intro h
    have := digs_length k v
    rw [h] at this
    simp at this
    omega
theorem numA_dec (v : Nat) (hv : v < 10 ^ 9) : numA (decDigits v) = (v, true) := by
  have h1 := dec_length_pos v
  unfold numA
  rw [if_pos ⟨dec_length_le v 9 (by omega) hv, dec_isD _⟩, val_dec, decide_eq_true]
  intro h; rw [h] at h1; simp at h1
theorem no100 (N : Nat) : 100 ∉ arest N := by
  unfold arest az
  have a1 := not_mem_of_all (digs_isD 2 (N % 10000000 * 36 / 6000000)) isD100
  have a2 := not_mem_of_all (digs_isD 2 (N % 10000000 * 36 % 6000000 / 100000)) isD100
  have a3 := not_mem_of_all (digs_isD 5 (N % 10000000 * 36 % 100000)) isD100
  simp [a1, a2, a3]
theorem no109 (N : Nat) : 109 ∉ az N := by
  unfold az
  have a2 := not_mem_of_all (digs_isD 2 (N % 10000000 * 36 % 6000000 / 100000)) isD109
  have a3 := not_mem_of_all (digs_isD 5 (N % 10000000 * 36 % 100000)) isD109
  simp [a2, a3]
theorem specA_ok (n : Int) (h : n.natAbs ≤ 1800000000) : specA (atext n) = (n, true) := by
  unfold specA
  simp only [cut_x, cut_y, az_len, az_take, az_drop]
  rw [if_neg (fun hc => hc ⟨by rw [unm_atext]; simp, no100 _⟩), if_neg (fun hc => hc ⟨by unfold arest; simp, no109 _⟩), if_neg (fun hc => hc rfl),
    numA_dec _ (by show _ < 1000000000; omega), numA_digs 2 _ (by omega) (by omega) (by show _ < 100; omega), numA_digs 2 _ (by omega) (by omega) (by show _ < 100; omega), numA_digs 5 _ (by omega) (by omega) (by show _ < 100000; omega)]
  rw [if_pos ⟨rfl, rfl, rfl, rfl, by show n.natAbs / 10000000 ≤ 180; omega⟩]
  simp only
  rw [aval_ok _ h, aneg_ok, afin_ok n h]
theorem A_eq (l : List UInt8) : specA l = implA l := by
  rcases implA_cases l with h | ⟨n, h, rfl, hn⟩
  · rcases specA_cases l with h2 | ⟨n, h2, rfl, hn⟩
    · rw [h, h2]
    · rw [implA_ok n hn] at h; cases h
  · rw [h, specA_ok n hn]
def numI (l : List UInt8) : Int × Bool := ((numA l).1, (numA l).2)
theorem l11Number_loop (l : List UInt8) (hl : l.length ≤ 2000000) : ∀ (rest pre : List UInt8), l = pre ++ rest → pre.all isD = true → pre.length ≤ 9 → Ev (fun k => spec_l11Number.l0 k (bs l) (val 0 pre : Nat) (pre.length : Nat)) (numI l) := by
  intro rest
  induction rest with
  | nil =>
    intro pre hp ha h9
    rw [List.append_nil] at hp
    subst hp
    refine ev_of_all fun k => ?_
    simp only [spec_l11Number.l0]
    rw [if_neg (by rw [bs_size]; omega), bs_list]
    unfold numI numA
    rw [if_pos ⟨h9, ha⟩]
    by_cases hz : l = []
    · subst hz; rfl
    · rw [decide_eq_true hz, bne_iff_ne.2 hz]
  | cons b rest ih =>
    intro pre hp ha h9
    have hi : pre.length < l.length := by rw [hp]; simp
    have hb : bt (bs l) (pre.length : Int) = (b.toNat : Int) := by
      rw [bt_bs l _ hi]
      congr 2
      simp [hp]
    have hno : ¬ (l.length ≤ 9 ∧ l.all isD = true) → numI l = (0, false) := fun h => by unfold numI numA; rw [if_neg h]; rfl
    have hall : isD b = false → ¬ (l.length ≤ 9 ∧ l.all isD = true) := fun hd h => by
      rw [hp, List.all_append] at h
      simp [hd] at h
    by_cases hd : isD b = true
    · have h48 := (isD_iff b).1 hd
      by_cases h10 : pre.length ≥ 9
      · refine ev_of_all fun k => ?_
        simp only [spec_l11Number.l0]
        rw [if_pos (by rw [bs_size]; omega), if_pos (by omega), hb, if_neg (by omega), if_neg (by omega), if_pos (by omega), hno (fun h => by omega)]
      · have hall2 : (pre ++ [b]).all isD = true := by rw [List.all_append, ha]; simp [hd]
        have hv := val_lt18 (pre ++ [b]) hall2 (by simp; omega)
        have hve : val 0 (pre ++ [b]) = 10 * val 0 pre + dv b := by rw [val_append, val_one]
        refine Ev.step (f := fun k => spec_l11Number.l0 k (bs l) ((val 0 (pre ++ [b]) : Nat) : Int) (((pre ++ [b]).length : Nat) : Int)) (fun k => ?_) (ih (pre ++ [b]) (by rw [hp]; simp) hall2 (by simp; omega))
        simp only [spec_l11Number.l0]
        rw [if_pos (by rw [bs_size]; omega), if_pos (by omega), hb, if_neg (by omega), if_neg (by omega), if_neg (by omega), sub48 b hd, wrap_small (x := 10 * (val 0 pre : Int)) (by omega) (by omega), wrap_small (by omega) (by omega), wrap_small (x := (pre.length : Int) + 1) (by omega) (by omega)]
        congr 1
        · omega
        · simp
    · have hd' : isD b = false := by simpa using hd
      refine ev_of_all fun k => ?_
      simp only [spec_l11Number.l0]
      rw [if_pos (by rw [bs_size]; omega), if_pos (by omega), hb, hno (hall hd')]
      by_cases h1 : (b.toNat : Int) < 48
      · rw [if_pos h1]
      · rw [if_neg h1, if_pos]
        have : ¬ (48 ≤ b.toNat ∧ b.toNat ≤ 57) := fun h => hd ((isD_iff b).2 h)
        omega
theorem l11Number_ev (l : List UInt8) (hl : l.length ≤ 2000000) : Ev (fun k => spec_l11Number.f k (bs l)) (numI l) := l11Number_loop l hl l [] rfl rfl (by simp)
theorem numA_lt (l : List UInt8) : (numA l).1 < 1000000000 := by
  unfold numA
  split
  · rename_i h
    have h1 := val_lt l 0 h.2
    have h2 : 10 ^ l.length ≤ 10 ^ 9 := Nat.pow_le_pow_right (by omega) h.1
    have h3 : (10 : Nat) ^ 9 = 1000000000 := rfl
    simp only; omega
  · simp
theorem unm_eq_len (l : List UInt8) : (unm l = l) ↔ ¬ (unm l).length < l.length := by
  cases l with
  | nil => simp [unm]
  | cons b r =>
    unfold unm
    simp only
    split
    · constructor
      · intro h; have := congrArg List.length h; simp at this
      · intro h; simp at h
    · simp
theorem wrap_aval (d m s p : Nat) (hd : d < 1000000000) (hm : m < 1000000000) (hs : s < 1000000000) (hp : p < 1000000000) :
    wrap64 (wrap64 ((d : Int) * 10000000) + wrap64 (Int.tdiv (wrap64 (wrap64 (wrap64 ((m : Int) * 6000000) + wrap64 ((s : Int) * 100000)) + (p : Int))) 36)) = (aval d m s p : Nat) := by
  have e1 : wrap64 ((d : Int) * 10000000) = ((d * 10000000 : Nat) : Int) := by rw [wrap_small (by omega) (by omega)]; simp
  have e2 : wrap64 (wrap64 (wrap64 ((m : Int) * 6000000) + wrap64 ((s : Int) * 100000)) + (p : Int)) = ((m * 6000000 + s * 100000 + p : Nat) : Int) := by
    rw [wrap_small (x := (m : Int) * 6000000) (by omega) (by omega), wrap_small (x := (s : Int) * 100000) (by omega) (by omega), wrap_small (x := (m : Int) * 6000000 + (s : Int) * 100000) (by omega) (by omega), wrap_small (by omega) (by omega)]
    simp
  rw [e1, e2, show Int.tdiv ((m * 6000000 + s * 100000 + p : Nat) : Int) 36 = (((m * 6000000 + s * 100000 + p) / 36 : Nat) : Int) from (Int.ofNat_tdiv _ 36).symm]
  unfold aval
  rw [wrap_small (x := (((m * 6000000 + s * 100000 + p) / 36 : Nat) : Int)) (by omega) (by omega), wrap_small (by omega) (by omega)]
  simp
theorem fin_spec (l : List UInt8) (n : Int) : Ev (fun k => if n < -1800000000 then some ((0 : Int), false) else (if n > 1800000000 then some (0, false) else ((spec_l11Parts.f k n).bind fun t => (if t.toList = (bs l).toList then some (n, true) else some (0, false))))) (afin l n) := by
  unfold afin
  by_cases h1 : n < -1800000000
  · refine ⟨0, fun k _ => ?_⟩
    simp only
    rw [if_pos h1, if_neg (by omega)]
  · by_cases h2 : n > 1800000000
    · refine ⟨0, fun k _ => ?_⟩
      simp only
      rw [if_neg h1, if_pos h2, if_neg (by omega)]
    · obtain ⟨K, hK⟩ := l11Parts_ev n (by omega)
      refine ⟨K, fun k hk => ?_⟩
      have e := hK k hk
      simp only at e
      simp only
      rw [if_neg h1, if_neg h2, if_pos (by omega), e, Option.bind_some, bs_list, bs_list]
      split <;> rfl
theorem j3_ev (l : List UInt8) (a b c d : Nat) (ha : a < 1000000000) (hb : b < 1000000000) (hc : c < 1000000000) (hd : d < 1000000000) :
    Ev (fun k => spec_ReadAngle.j3 k (bs l) (bs (unm l)) a b c d false) (afin l (aneg l (aval a b c d))) := by
  have hw := wrap_aval a b c d ha hb hc hd
  have hn : aval a b c d ≤ 100000000000000000 := by unfold aval; omega
  obtain ⟨K, hK⟩ := fin_spec l (aneg l (aval a b c d))
  refine ev_succ K fun k hk => ?_
  have e := hK k hk
  simp only at e
  simp only [spec_ReadAngle.j3]
  rw [if_neg (by simp), hw]
  unfold aneg at e ⊢
  by_cases h : (unm l).length < l.length
  · rw [if_pos h] at e
    rw [if_pos h, if_pos (by rw [bs_size, bs_size]; omega), wrap_small (x := -((aval a b c d : Nat) : Int)) (by omega) (by omega)]
    exact e
  · rw [if_neg h] at e
    rw [if_neg h, if_neg (by rw [bs_size, bs_size]; omega)]
    exact e
theorem j2_ev (l x w y z : List UInt8) (hx : x.length ≤ 2000000) (hy : y.length ≤ 2000000) (hz : z.length = 9) :
    Ev (fun k => spec_ReadAngle.j2 k (bs l) (bs (unm l)) [bs x, bs w] [bs y, bs z] false)
      (if (numA x).2 = true ∧ (numA y).2 = true ∧ (numA (z.take 2)).2 = true ∧ (numA ((z.take 8).drop 3)).2 = true ∧ (numA x).1 ≤ 180 then
        afin l (aneg l (aval (numA x).1 (numA y).1 (numA (z.take 2)).1 (numA ((z.take 8).drop 3)).1)) else (0, false)) := by
  obtain ⟨K1, h1⟩ := l11Number_ev x hx
  obtain ⟨K2, h2⟩ := l11Number_ev y hy
  obtain ⟨K3, h3⟩ := l11Number_ev (z.take 2) (by rw [List.length_take]; omega)
  obtain ⟨K4, h4⟩ := l11Number_ev ((z.take 8).drop 3) (by rw [List.length_drop, List.length_take]; omega)
  obtain ⟨K5, h5⟩ := j3_ev l (numA x).1 (numA y).1 (numA (z.take 2)).1 (numA ((z.take 8).drop 3)).1 (numA_lt _) (numA_lt _) (numA_lt _) (numA_lt _)
  refine ev_succ (max K1 (max K2 (max K3 (max K4 (K5 + 1))))) fun k hk => ?_
  have e1 := h1 k (by omega)
  have e2 := h2 k (by omega)
  have e3 := h3 k (by omega)
  have e4 := h4 k (by omega)
  have e5 := h5 k (by omega)
  simp only at e1 e2 e3 e4 e5
  have eT : ∀ p q r s : Int, spec_ReadAngle.j3 k (bs l) (bs (unm l)) p q r s true = some (0, false) := fun p q r s => by
    obtain ⟨k, rfl⟩ : ∃ k', k = k' + 1 := ⟨k - 1, by omega⟩
    simp only [spec_ReadAngle.j3]
    rw [if_pos trivial]
  simp only [spec_ReadAngle.j2]
  rw [if_neg (by simp), if_pos (by show (0 : Int) < 2; omega)]
  rw [show rdOf ByteArray.empty [bs x, bs w] 0 = bs x from rfl, show rdOf ByteArray.empty [bs y, bs z] 0 = bs y from rfl, show rdOf ByteArray.empty [bs y, bs z] 1 = bs z from rfl]
  rw [e1, Option.bind_some, if_pos (by show (0 : Int) < 2; omega), e2, Option.bind_some, if_pos (by show (1 : Int) < 2; omega), if_pos (by omega), if_pos (by rw [bs_size]; omega)]
  rw [show (bs z).extract 0 2 = bs (z.take 2) by rw [bs_extract]; rfl, show (bs z).extract 3 8 = bs ((z.take 8).drop 3) from bs_extract _ _ _, e3, Option.bind_some, if_pos (by omega), if_pos (by rw [bs_size]; omega), e4, Option.bind_some]
  unfold numI
  simp only
  by_cases c1 : (numA x).2 = true
  · by_cases c2 : (numA y).2 = true
    · by_cases c3 : (numA (z.take 2)).2 = true
      · by_cases c4 : (numA ((z.take 8).drop 3)).2 = true
        · rw [if_pos c1, if_pos c2, if_pos c3, if_pos c4]
          by_cases c5 : (numA x).1 ≤ 180
          · rw [if_pos ⟨c1, c2, c3, c4, c5⟩, decide_eq_false (by omega)]
            exact e5
          · rw [if_neg (fun h => c5 h.2.2.2.2), decide_eq_true (by omega), eT]
        · rw [if_pos c1, if_pos c2, if_pos c3, if_neg c4, if_neg (fun h => c4 h.2.2.2.1), eT]
      · rw [if_pos c1, if_pos c2, if_neg c3, if_neg (fun h => c3 h.2.2.1), eT]
    · rw [if_pos c1, if_neg c2, if_neg (fun h => c2 h.2.1), eT]
  · rw [if_neg c1, if_neg (fun h => c1 h.1), eT]
theorem j1_ev (l : List UInt8) (hl : l.length ≤ 1048576) : Ev (fun k => spec_ReadAngle.j1 k (bs l) (bs (unm l))) (specA l) := by
  have u := unm_len' l
  have h1 := cut1_len' 100 (unm l)
  have h2 := cut1_len' 109 (cut1 100 (unm l)).2
  unfold specA
  simp only
  generalize hx : (cut1 100 (unm l)).1 = x at *
  generalize hw : (cut1 100 (unm l)).2 = w at *
  generalize hy : (cut1 109 w).1 = y at *
  generalize hz : (cut1 109 w).2 = z at *
  obtain ⟨K1, e1⟩ := l01Split_ev 100 (unm l) (by omega)
  obtain ⟨K2, e2⟩ := l01Split_ev 109 w (by omega)
  by_cases c1 : 100 ∈ unm l ∧ 100 ∉ w
  · rw [if_neg (fun h => h c1)]
    have s1 : splitB 100 (unm l) = [x, w] := by rw [split_two_of c1.1 (by rw [hw]; exact c1.2), hx, hw]
    rw [s1] at e1
    by_cases c2 : 109 ∈ w ∧ 109 ∉ z
    · rw [if_neg (fun h => h c2)]
      have s2 : splitB 109 w = [y, z] := by rw [split_two_of c2.1 (by rw [hz]; exact c2.2), hy, hz]
      rw [s2] at e2
      by_cases c3 : z.length = 9
      · rw [if_neg (fun h => h c3)]
        obtain ⟨K3, e3⟩ := j2_ev l x w y z (by omega) (by omega) c3
        refine ev_succ (max K1 (max K2 K3)) fun k hk => ?_
        have f1 : spec_l01Split.f k (bs (unm l)) 100 = some [bs x, bs w] := e1 k (by omega)
        have f2 : spec_l01Split.f k (bs w) 109 = some [bs y, bs z] := e2 k (by omega)
        have f3 := e3 k (by omega)
        simp only at f3
        simp only [spec_ReadAngle.j1]
        rw [f1, Option.bind_some, if_pos (by rfl), if_pos (by show (1 : Int) < 2; omega), show rdOf ByteArray.empty [bs x, bs w] 1 = bs w from rfl, f2, Option.bind_some, if_pos (by rfl), if_pos (by show (1 : Int) < 2; omega), show rdOf ByteArray.empty [bs y, bs z] 1 = bs z from rfl]
        have : (((bs z).size : Int) != 9) = false := by rw [bs_size, c3]; rfl
        rw [this]
        exact f3
      · rw [if_pos c3]
        refine ev_succ (max K1 (max K2 1)) fun k hk => ?_
        have f1 : spec_l01Split.f k (bs (unm l)) 100 = some [bs x, bs w] := e1 k (by omega)
        have f2 : spec_l01Split.f k (bs w) 109 = some [bs y, bs z] := e2 k (by omega)
        simp only [spec_ReadAngle.j1]
        rw [f1, Option.bind_some, if_pos (by rfl), if_pos (by show (1 : Int) < 2; omega), show rdOf ByteArray.empty [bs x, bs w] 1 = bs w from rfl, f2, Option.bind_some, if_pos (by rfl), if_pos (by show (1 : Int) < 2; omega), show rdOf ByteArray.empty [bs y, bs z] 1 = bs z from rfl]
        have : (((bs z).size : Int) != 9) = true := by rw [bs_size]; exact bne_iff_ne.2 (by omega)
        rw [this]
        obtain ⟨k, rfl⟩ : ∃ k', k = k' + 1 := ⟨k - 1, by omega⟩
        simp only [spec_ReadAngle.j2]
        rw [if_pos trivial]
    · rw [if_pos c2]
      refine ev_succ (max K1 (max K2 1)) fun k hk => ?_
      have f1 : spec_l01Split.f k (bs (unm l)) 100 = some [bs x, bs w] := e1 k (by omega)
      have f2 : spec_l01Split.f k (bs w) 109 = _ := e2 k (by omega)
      simp only [spec_ReadAngle.j1]
      rw [f1, Option.bind_some, if_pos (by rfl), if_pos (by show (1 : Int) < 2; omega), show rdOf ByteArray.empty [bs x, bs w] 1 = bs w from rfl, f2, Option.bind_some, if_neg]
      · obtain ⟨k, rfl⟩ : ∃ k', k = k' + 1 := ⟨k - 1, by omega⟩
        simp only [spec_ReadAngle.j2]
        rw [if_pos trivial]
      · have := split_other (c := 109) (l := w) (by rw [hz]; exact c2)
        rw [List.length_map]
        omega
  · rw [if_pos c1]
    refine ev_succ K1 fun k hk => ?_
    have f1 : spec_l01Split.f k (bs (unm l)) 100 = _ := e1 k (by omega)
    simp only [spec_ReadAngle.j1]
    rw [f1, Option.bind_some, if_neg]
    have := split_other (c := 100) (l := unm l) (by rw [hw]; exact c1)
    rw [List.length_map]
    omega
theorem specA_ev (l : List UInt8) (hl : l.length ≤ 1048576) : Ev (fun k => spec_ReadAngle.f k (bs l)) (specA l) := by
  obtain ⟨K, hK⟩ := j1_ev l hl
  refine ⟨K + 1, fun k hk => ?_⟩
  obtain ⟨k, rfl⟩ : ∃ k', k = k' + 1 := ⟨k - 1, by omega⟩
  have e := hK k (by omega)
  simp only at e
  simp only [spec_ReadAngle.f]
  rw [bs_list]
  cases hlc : l with
  | nil =>
    rw [hlc] at e
    rw [if_pos rfl]
    simp only [spec_ReadAngle.j0]
    rw [if_neg (by simp)]
    exact e
  | cons b r =>
    rw [if_neg (by simp), if_pos (by rw [bs_size]; simp)]
    have hb : bt (bs (b :: r)) 0 = (b.toNat : Int) := bt_bs (b :: r) 0 (by simp)
    rw [hb]
    rw [hlc] at e
    simp only [spec_ReadAngle.j0]
    by_cases h45 : b = 45
    · subst h45
      rw [if_pos (by rfl), if_pos (by rw [bs_size]; simp; omega), bs_extract_end]
      exact e
    · have hu : unm (b :: r) = b :: r := by simp [unm, h45]
      rw [hu] at e
      rw [if_neg]
      · exact e
      · intro h
        have : (b.toNat : Int) = 45 := by simpa using h
        exact h45 (UInt8.toNat_inj.1 (by show b.toNat = 45; omega))
theorem ij1_ev (l : List UInt8) (n : Int) : Ev (fun k => impl_ReadAngle.j1 k (bs l) n) (afin l n) := by
  unfold afin
  by_cases h : -1800000000 ≤ n ∧ n ≤ 1800000000
  · rw [if_pos h]
    obtain ⟨K, hK⟩ := angleText_ev n (by omega)
    refine ev_succ K fun k hk => ?_
    have e := hK k hk
    simp only at e
    have hi : impl_within.f n (-1800000000) 1800000000 = some true := by unfold impl_within.f; rw [if_pos (by omega), decide_eq_true (by omega)]
    simp only [impl_ReadAngle.j1]
    rw [hi, Option.bind_some, if_pos rfl, e, Option.bind_some, bs_list, bs_list]
    split <;> rfl
  · rw [if_neg h]
    have hi : impl_within.f n (-1800000000) 1800000000 = some false := by
      unfold impl_within.f
      by_cases h2 : n ≥ -1800000000
      · rw [if_pos h2, decide_eq_false (by omega)]
      · rw [if_neg h2]
    refine ev_succ 0 fun k _ => ?_
    simp only [impl_ReadAngle.j1]
    rw [hi, Option.bind_some]
    simp
theorem number_f (l : List UInt8) (h : l.length ≤ 18) (hd : l.all isD = true) : impl_ReadAngle1.f (bs l) = some ((val 0 l : Nat) : Int) := by
  unfold impl_ReadAngle1.f
  rw [if_pos ⟨by rw [bs_size]; exact h, hd⟩]
theorem val9 (l : List UInt8) (h : l.all isD = true) (hl : l.length ≤ 9) : val 0 l < 1000000000 := by
  have h1 := val_lt l 0 h
  have h2 : 10 ^ l.length ≤ 10 ^ 9 := Nat.pow_le_pow_right (by omega) hl
  have h3 : (10 : Nat) ^ 9 = 1000000000 := rfl
  omega
theorem implA_ev (l : List UInt8) (hl : l.length ≤ 1048576) : Ev (fun k => impl_ReadAngle.f k (bs l)) (implA l) := by
  have u := unm_len' l
  have h1 := cut1_len' 100 (unm l)
  have h2 := cut1_len' 109 (cut1 100 (unm l)).2
  have t0 : strings_TrimPrefix.f (bs l) (bs [45]) = some (bs (unm l)) := by
    unfold strings_TrimPrefix.f
    have := trim_minus l
    simp only [this]
  have t1 : strings_Cut.f (bs (unm l)) (bs [100]) = some (bs (cut1 100 (unm l)).1, bs (cut1 100 (unm l)).2, decide (100 ∈ unm l)) := by
    unfold strings_Cut.f
    rw [if_pos (by rw [bs_size]; omega)]
    have := cut_eq 100 (unm l)
    simp only [this]
  have t2 : strings_Cut.f (bs (cut1 100 (unm l)).2) (bs [109]) = some (bs (cut1 109 (cut1 100 (unm l)).2).1, bs (cut1 109 (cut1 100 (unm l)).2).2, decide (109 ∈ (cut1 100 (unm l)).2)) := by
    unfold strings_Cut.f
    rw [if_pos (by rw [bs_size]; omega)]
    have := cut_eq 109 (cut1 100 (unm l)).2
    simp only [this]
  unfold implA
  simp only
  generalize hx : (cut1 100 (unm l)).1 = x at *
  generalize hw : (cut1 100 (unm l)).2 = w at *
  generalize hy : (cut1 109 w).1 = y at *
  generalize hz : (cut1 109 w).2 = z at *
  have hf : ∀ k, impl_ReadAngle.f k (bs l) = if (x.length : Int) > 3 then impl_ReadAngle.j0 k (bs l) (bs (unm l)) (bs x) (bs y) (bs z) true else (if (y.length : Int) = 2 then impl_ReadAngle.j0 k (bs l) (bs (unm l)) (bs x) (bs y) (bs z) ((z.length : Int) != 9) else impl_ReadAngle.j0 k (bs l) (bs (unm l)) (bs x) (bs y) (bs z) true) := fun k => by
    unfold impl_ReadAngle.f
    rw [show (⟨#[45]⟩ : ByteArray) = bs [45] from rfl, t0, Option.bind_some, show (⟨#[100]⟩ : ByteArray) = bs [100] from rfl, t1, Option.bind_some]
    simp only
    rw [show (⟨#[109]⟩ : ByteArray) = bs [109] from rfl, t2, Option.bind_some]
    simp only [bs_size]
  have hT : ∀ k, impl_ReadAngle.j0 (k + 1) (bs l) (bs (unm l)) (bs x) (bs y) (bs z) true = some (0, false) := fun k => by
    simp only [impl_ReadAngle.j0]
    rw [if_pos trivial]
  refine Ev.congr hf ?_
  by_cases c : 3 < x.length ∨ y.length ≠ 2 ∨ z.length ≠ 9
  · rw [if_pos c]
    refine ev_of_all fun k => ?_
    by_cases d1 : (x.length : Int) > 3
    · rw [if_pos d1, hT]
    · rw [if_neg d1]
      by_cases d2 : (y.length : Int) = 2
      · rw [if_pos d2]
        have : ((z.length : Int) != 9) = true := bne_iff_ne.2 (by omega)
        rw [this, hT]
      · rw [if_neg d2, hT]
  · rw [if_neg c]
    have cx : x.length ≤ 3 := by omega
    have cy : y.length = 2 := by omega
    have cz : z.length = 9 := by omega
    have hzf : ((z.length : Int) != 9) = false := by rw [cz]; rfl
    have l2 : (z.take 2).length = 2 := by rw [List.length_take]; omega
    have l3 : ((z.take 8).drop 3).length = 5 := by rw [List.length_drop, List.length_take]; omega
    refine Ev.congr (f := fun k => impl_ReadAngle.j0 k (bs l) (bs (unm l)) (bs x) (bs y) (bs z) false) (fun k => by rw [if_neg (by omega), if_pos (by omega), hzf]) ?_
    have x2 : (bs z).extract 0 2 = bs (z.take 2) := by rw [bs_extract]; rfl
    have x3 : (bs z).extract 3 8 = bs ((z.take 8).drop 3) := bs_extract _ _ _
    have tr : strings_Trim.f (bs (x ++ y ++ z.take 2 ++ (z.take 8).drop 3)) (⟨#[48, 49, 50, 51, 52, 53, 54, 55, 56, 57]⟩ : ByteArray) = some (bs (trimS (x ++ y ++ z.take 2 ++ (z.take 8).drop 3) digs10)) := by
      unfold strings_Trim.f
      rw [if_pos ⟨by rw [bs_size]; simp only [List.length_append]; omega, by decide, by decide⟩]
      rfl
    by_cases dd : (x ++ y ++ z.take 2 ++ (z.take 8).drop 3).all isD = true
    · rw [if_neg (fun h => h dd)]
      have dd' := dd
      simp only [List.all_append, Bool.and_eq_true] at dd'
      obtain ⟨⟨⟨dx, dy⟩, d2⟩, d3⟩ := dd'
      have hw := wrap_aval (val 0 x) (val 0 y) (val 0 (z.take 2)) (val 0 ((z.take 8).drop 3)) (val9 x dx (by omega)) (val9 y dy (by omega)) (val9 _ d2 (by omega)) (val9 _ d3 (by omega))
      have hb : aval (val 0 x) (val 0 y) (val 0 (z.take 2)) (val 0 ((z.take 8).drop 3)) ≤ 100000000000000000 := by
        have := val9 x dx (by omega)
        have := val9 y dy (by omega)
        have := val9 _ d2 (by omega)
        have := val9 _ d3 (by omega)
        unfold aval; omega
      obtain ⟨K, hK⟩ := ij1_ev l (aneg l (aval (val 0 x) (val 0 y) (val 0 (z.take 2)) (val 0 ((z.take 8).drop 3))))
      refine ev_succ K fun k hk => ?_
      have e := hK k hk
      simp only at e
      simp only [impl_ReadAngle.j0, x2, x3, bs_append]
      rw [if_neg (by simp), if_pos (fits_ (by omega)), if_pos (by omega), if_pos (by rw [bs_size]; omega), if_pos (fits_ (by simp only [List.length_append]; omega)), if_pos (by omega), if_pos (by rw [bs_size]; omega), if_pos (fits_ (by simp only [List.length_append]; omega)), tr, Option.bind_some, if_pos (by rw [bs_list]; exact (trimS_nil _).2 dd)]
      rw [number_f y (by omega) dy, Option.bind_some, number_f _ (by omega) d2, Option.bind_some, number_f _ (by omega) d3, Option.bind_some, number_f x (by omega) dx, Option.bind_some, hw, bs_list, bs_list]
      unfold aneg at e
      by_cases hs : (unm l).length < l.length
      · rw [if_pos hs] at e
        rw [if_neg (fun h => (unm_eq_len l).1 h hs), wrap_small (by omega) (by omega)]
        unfold aneg
        rw [if_pos hs]
        exact e
      · rw [if_neg hs] at e
        rw [if_pos ((unm_eq_len l).2 hs)]
        unfold aneg
        rw [if_neg hs]
        exact e
    · rw [if_pos dd]
      refine ev_of_all fun k => ?_
      simp only [impl_ReadAngle.j0, x2, x3, bs_append]
      rw [if_neg (by simp), if_pos (fits_ (by omega)), if_pos (by omega), if_pos (by rw [bs_size]; omega), if_pos (fits_ (by simp only [List.length_append]; omega)), if_pos (by omega), if_pos (by rw [bs_size]; omega), if_pos (fits_ (by simp only [List.length_append]; omega)), tr, Option.bind_some, if_neg (by rw [bs_list]; exact fun h => dd ((trimS_nil _).1 h))]
theorem lawReadAngle (s : ByteArray) : ∃ k, laws_FnExactReadAngle.f k s = some true := by
  rw [← bs_toList s]
  generalize s.data.toList = l
  by_cases h : l.length ≤ 1048576
  · obtain ⟨K1, h1⟩ := specA_ev l h
    obtain ⟨K2, h2⟩ := implA_ev l h
    refine ⟨max K1 K2, ?_⟩
    have e1 := h1 (max K1 K2) (by omega)
    have e2 := h2 (max K1 K2) (by omega)
    simp only at e1 e2
    rw [A_eq] at e1
    unfold laws_FnExactReadAngle.f
    rw [if_neg (by rw [bs_size]; omega), e1, Option.bind_some, e2, Option.bind_some]
    simp
  · refine ⟨0, ?_⟩
    unfold laws_FnExactReadAngle.f
    rw [if_pos (by rw [bs_size]; omega)]
end Go.Proofs.YtoncbpohjdackaaDoor.TX
