/- What the printed functions come to: decimal numerals. -/
import Derived.Test.YtoncbpohjdackaaDoorX3
import Derived.Lib.ItoaLen
import Derived.Lib.Bytes
set_option linter.unusedVariables false
set_option linter.unusedSimpArgs false
namespace Go.Proofs.YtoncbpohjdackaaDoor.TX
open Go.RowKit Go.Proofs.YtoncbpohjdackaaDoorW.PrintWords Go.Proofs.YtoncbpohjdackaaDoorW.PrintLast
open Go.TX Go.Lib

abbrev bs (l : List UInt8) : ByteArray := ⟨l.toArray⟩
def ints (l : List UInt8) : List Int := l.map fun b => (b.toNat : Int)
theorem bs_inj {l m : List UInt8} (h : bs l = bs m) : l = m := by
  have := congrArg (fun x : ByteArray => x.data.toList) h
  simpa using this
theorem bs_toList (s : ByteArray) : bs s.data.toList = s := by cases s with | mk d => rfl
theorem bs_append (l m : List UInt8) : bs l ++ bs m = bs (l ++ m) := by
  show (⟨l.toArray⟩ ++ ⟨m.toArray⟩ : ByteArray) = ⟨(l ++ m).toArray⟩
  rw [← bs_toList (⟨l.toArray⟩ ++ ⟨m.toArray⟩ : ByteArray)]
  simp
theorem bs_size (l : List UInt8) : (bs l).size = l.length := by simp [ByteArray.size]
theorem bs_list (l : List UInt8) : (bs l).toList = l := by rw [ByteArray.toList_eq]
theorem ints_append (l m : List UInt8) : ints (l ++ m) = ints l ++ ints m := by simp [ints]
theorem ints_length (l : List UInt8) : (ints l).length = l.length := by simp [ints]
theorem str_ints (l : List UInt8) : strOfNums (ints l) = bs l := by
  rw [← bs_toList (strOfNums (ints l))]
  congr 1
  rw [← ByteArray.toList_eq, Lib.strOfNums_toList]
  unfold Lib.bytesOf ints
  rw [List.map_map]
  exact (List.map_congr_left (g := id) (fun b _ => by simp)).trans (List.map_id l)

theorem wrap_small {x : Int} (h0 : -9223372036854775808 ≤ x) (h1 : x ≤ 9223372036854775807) : wrap64 x = x := by unfold wrap64; omega
theorem dig_int (n : Nat) (h : n < 10) : (wrap64 (48 + (n : Int))) % 256 = ((UInt8.ofNat (48 + n)).toNat : Int) := by
  rw [wrap_small (by omega) (by omega), UInt8.toNat_ofNat']
  omega

theorem l01Dec_loop (x0 : Int) (r : ByteArray) : ∀ (m : Nat) (x3 : List Int) (x4 : Int), x4.natAbs = m → 0 < m → m ≤ 9223372036854775808 → -9223372036854775808 ≤ x4 → x4 ≤ 9223372036854775807 → x3.length + (decDigits m).length ≤ 100 →
    Ev (fun k => spec_l01Dec.l0 k x0 (ints (decDigits m) ++ x3) 0) r → Ev (fun k => spec_l01Dec.l0 k x0 x3 x4) r := by
  intro m
  induction m using Nat.strongRecOn with
  | _ m ih =>
    intro x3 x4 hx hm hm2 hl hh hlen hev
    have hne : ¬ x4 = 0 := by omega
    -- the digit and the rest
    have hd : ∃ d q : Nat, d = m % 10 ∧ q = m / 10 ∧ ((Int.tmod x4 10 < 0 ∧ Int.tmod x4 10 = -(d : Int)) ∨ (¬ Int.tmod x4 10 < 0 ∧ Int.tmod x4 10 = (d : Int))) ∧ (Int.tdiv x4 10).natAbs = q ∧ -9223372036854775808 ≤ Int.tdiv x4 10 ∧ Int.tdiv x4 10 ≤ 9223372036854775807 := by
      refine ⟨m % 10, m / 10, rfl, rfl, ?_, ?_, ?_, ?_⟩
      · rcases Int.natAbs_eq x4 with h | h
        · rw [hx] at h
          rw [h]
          right
          have : Int.tmod (m : Int) 10 = ((m % 10 : Nat) : Int) := (Int.ofNat_tmod m 10).symm
          rw [this]; constructor <;> omega
        · rw [hx] at h
          rw [h]
          have : Int.tmod (-(m : Int)) 10 = -((m % 10 : Nat) : Int) := by rw [Int.neg_tmod]; exact congrArg Neg.neg (Int.ofNat_tmod m 10).symm
          rw [this]
          by_cases h0 : m % 10 = 0
          · right; rw [h0]; constructor <;> simp
          · left; constructor <;> omega
      · rw [Int.natAbs_tdiv, hx]; rfl
      · have : (Int.tdiv x4 10).natAbs = m / 10 := by rw [Int.natAbs_tdiv, hx]; rfl
        omega
      · have : (Int.tdiv x4 10).natAbs = m / 10 := by rw [Int.natAbs_tdiv, hx]; rfl
        omega
    obtain ⟨d, q, hd1, hq1, hsgn, hq, hq2, hq3⟩ := hd
    have hlen1 : 1 + x3.length < 140737488355328 := by omega
    have hstep : ∀ k, spec_l01Dec.l0 (k + 1) x0 x3 x4 = spec_l01Dec.l0 k x0 (((UInt8.ofNat (48 + d)).toNat : Int) :: x3) (Int.tdiv x4 10) := by
      intro k
      rcases hsgn with ⟨h1, h2⟩ | ⟨h1, h2⟩
      · simp only [spec_l01Dec.l0]
        rw [if_neg hne, if_pos h1, Option.bind_some, if_pos (by simpa using hlen1), wrap_small hq2 hq3, h2, Int.neg_neg, wrap_small (x := (d : Int)) (by omega) (by omega), dig_int d (by omega)]
        rfl
      · simp only [spec_l01Dec.l0]
        rw [if_neg hne, if_neg h1, Option.bind_some, if_pos (by simpa using hlen1), wrap_small hq2 hq3, h2, dig_int d (by omega)]
        rfl
    refine Ev.step hstep ?_
    by_cases h10 : m < 10
    · have hq0 : Int.tdiv x4 10 = 0 := by omega
      rw [hq0]
      have : ints (decDigits m) = [((UInt8.ofNat (48 + d)).toNat : Int)] := by rw [decDigits_one h10, hd1, Nat.mod_eq_of_lt h10]; rfl
      rw [this] at hev
      exact hev
    · have hdec : decDigits m = decDigits q ++ [UInt8.ofNat (48 + d)] := by rw [decDigits, dif_neg h10, hd1, hq1]
      refine ih q (by omega) _ _ hq (by omega) (by omega) hq2 hq3 ?_ ?_
      · rw [hdec] at hlen
        simp only [List.length_cons, List.length_append, List.length_nil] at hlen ⊢
        omega
      · rw [hdec, ints_append] at hev
        have : (ints (decDigits q) ++ ints [UInt8.ofNat (48 + d)]) ++ x3 = ints (decDigits q) ++ ((UInt8.ofNat (48 + d)).toNat : Int) :: x3 := by simp [ints]
        rw [this] at hev
        exact hev
theorem ev_of_all {α : Type} {g : Nat → Option α} {r : α} (h : ∀ k, g (k + 1) = some r) : Ev g r := Ev.step (f := fun _ => some r) h (Ev.now r)
theorem l01Dec_ev (n : Int) (h0 : -9223372036854775808 ≤ n) (h1 : n ≤ 9223372036854775807) : Ev (fun k => spec_l01Dec.f k n) (bs (itoa n)) := by
  unfold spec_l01Dec.f
  by_cases hz : n = 0
  · subst hz
    refine ev_of_all fun k => ?_
    simp only [spec_l01Dec.l0]
    rw [if_pos trivial]
    rw [if_pos (by rfl), itoa, if_neg (by omega)]
    rw [show (0 : Int).toNat = 0 from rfl, decDigits_one (by omega)]
    rfl
  · have hle := itoa_length_le n h0 h1
    rw [itoa_sgn, List.length_append] at hle
    refine l01Dec_loop n _ n.natAbs [] n rfl (by omega) (by omega) h0 h1 (by simp; omega) ?_
    rw [List.append_nil]
    have hpos := dec_length_pos n.natAbs
    refine ev_of_all fun k => ?_
    simp only [spec_l01Dec.l0]
    have hl : ((ints (decDigits n.natAbs)).length : Int) ≠ 0 := by rw [ints_length]; omega
    rw [if_pos trivial, if_neg hl, str_ints, bs_size, itoa_sgn]
    by_cases hn : n < 0
    · rw [if_pos hn, if_pos (by omega)]
      unfold sgn
      rw [if_pos hn]
      exact congrArg some (bs_append [45] _)
    · rw [if_neg hn]
      unfold sgn
      rw [if_neg hn, List.nil_append]
end Go.Proofs.YtoncbpohjdackaaDoor.TX
