/- What readDigits comes to. -/
import Derived.Test.YtoncbpohjdackaaDoorN2
import Derived.Lib.SlTrimSet
set_option linter.unusedVariables false
set_option linter.unusedSimpArgs false
namespace Go.Proofs.YtoncbpohjdackaaDoor.TX
open Go.RowKit Go.TX Go.Proofs.YtoncbpohjdackaaDoorW.PrintWords Go.Proofs.YtoncbpohjdackaaDoorW.PrintLast
open Go.Lib
def digs10 : List UInt8 := [48, 49, 50, 51, 52, 53, 54, 55, 56, 57]
theorem contains_digs (b : UInt8) : digs10.contains b = isD b := by
  have key : ∀ n : UInt8, (b == n) = decide (b.toNat = n.toNat) := fun n => by
    by_cases h : b = n
    · subst h; simp
    · rw [beq_eq_false_iff_ne.2 h, decide_eq_false]
      exact fun h' => h (UInt8.toNat_inj.1 h')
  rw [Bool.eq_iff_iff]
  unfold digs10 isD
  simp only [List.contains_cons, key, Bool.or_eq_true, Bool.and_eq_true, decide_eq_true_eq, List.contains_nil]
  simp only [show (48 : UInt8).toNat = 48 from rfl, show (49 : UInt8).toNat = 49 from rfl, show (50 : UInt8).toNat = 50 from rfl, show (51 : UInt8).toNat = 51 from rfl, show (52 : UInt8).toNat = 52 from rfl, show (53 : UInt8).toNat = 53 from rfl, show (54 : UInt8).toNat = 54 from rfl, show (55 : UInt8).toNat = 55 from rfl, show (56 : UInt8).toNat = 56 from rfl, show (57 : UInt8).toNat = 57 from rfl]
  constructor
  · intro h; simp at h; omega
  · intro h; simp; omega
theorem dropWhile_nil {p : UInt8 → Bool} : ∀ {l : List UInt8}, l.dropWhile p = [] → l.all p = true
  | [], _ => rfl
  | b :: l, h => by
    by_cases hb : p b = true
    · rw [List.dropWhile_cons_of_pos hb] at h
      simp [hb, dropWhile_nil h]
    · rw [List.dropWhile_cons_of_neg hb] at h; cases h
theorem dropWhile_all {p : UInt8 → Bool} : ∀ {l : List UInt8}, l.all p = true → l.dropWhile p = []
  | [], _ => rfl
  | b :: l, h => by
    simp only [List.all_cons, Bool.and_eq_true] at h
    rw [List.dropWhile_cons_of_pos h.1, dropWhile_all h.2]
theorem dropWhile_head {p : UInt8 → Bool} : ∀ {l : List UInt8}, (l.dropWhile p).all p = true → l.dropWhile p = []
  | [], _ => rfl
  | b :: l, h => by
    by_cases hb : p b = true
    · rw [List.dropWhile_cons_of_pos hb] at h ⊢; exact dropWhile_head h
    · rw [List.dropWhile_cons_of_neg hb] at h
      simp [hb] at h
theorem trimS_nil (l : List UInt8) : (trimS l digs10 = []) ↔ l.all isD = true := by
  have hp : (fun x => digs10.contains x) = isD := funext contains_digs
  unfold trimS trimLeftS trimRightS
  rw [hp]
  constructor
  · intro h
    have h1 := dropWhile_nil h
    rw [List.all_reverse] at h1
    have h2 := dropWhile_head h1
    have h3 := dropWhile_nil h2
    rwa [List.all_reverse] at h3
  · intro h
    rw [dropWhile_all (l := l.reverse) (by rw [List.all_reverse]; exact h)]
    rfl

theorem unm_len' (l : List UInt8) : (unm l).length ≤ l.length := by
  cases l with
  | nil => exact Nat.le_refl _
  | cons b r => unfold unm; simp only; split <;> simp
theorem cut1_len' (c : UInt8) (l : List UInt8) : (cut1 c l).1.length ≤ l.length ∧ (cut1 c l).2.length ≤ l.length := by
  induction l with
  | nil => simp [cut1]
  | cons b l ih =>
    rw [cut1]
    split
    · simp
    · simp; omega
theorem val_lt18' (l : List UInt8) (h : l.all isD = true) (hl : l.length ≤ 18) : val 0 l < 1000000000000000000 := by
  have := val_lt l 0 h
  have h2 : 10 ^ l.length ≤ 10 ^ 18 := Nat.pow_le_pow_right (by omega) hl
  have h3 : (10 : Nat) ^ 18 = 1000000000000000000 := rfl
  omega
/-- readDigits, on bytes. -/
def readDig (l : List UInt8) : Int × Int × Bool :=
  let whole := (cut1 46 l).1
  let part := (cut1 46 l).2
  let uns := unm whole
  if decide (46 ∈ l) ≠ decide (0 < part.length) then (0, 0, false)
  else if 9 < part.length then (0, 0, false)
  else if ¬ (1 ≤ uns.length ∧ uns.length ≤ 9) then (0, 0, false)
  else if ¬ ((uns ++ part).all isD = true) then (0, 0, false)
  else
    let m : Int := if uns = whole then (val 0 (uns ++ part) : Int) else -(val 0 (uns ++ part) : Int)
    (m, part.length, decide (dt part.length m = l))
theorem ba_eq (a b : List UInt8) : ((bs a).toList == (bs b).toList) = decide (a = b) := by
  rw [bs_list, bs_list]
  by_cases h : a = b
  · subst h; simp
  · rw [decide_eq_false h, beq_eq_false_iff_ne]; exact h
theorem readDigits_ {b : Bool} (l : List UInt8) (h : l.length < 4294967281) (w : World) (hO : Ok_ b w) :
    Calls Tryd.prog 64 #[.string (bs l)] w fun e w' => e = .returned (.tuple #[.int .i64 (readDig l).1, .int .i64 (readDig l).2.1, .bool (readDig l).2.2]) ∧ Below w.heap.size w w' := by
  have hcut : ∀ w, Ok_ b w → Calls Tryd.prog 39 #[.string (bs l), .string ⟨#[46]⟩] w fun e w' => e = .returned (.tuple #[.string (bs (cut1 46 l).1), .string (bs (cut1 46 l).2), .bool (decide (46 ∈ l))]) ∧ Below w.heap.size w w' := fun w hO => by
    have := cut_ (bs l) ⟨#[46]⟩ (by rw [bs_size]; exact h) w hO
    have e := cut_eq 46 l
    simp only [e] at this
    exact this
  have htrim : ∀ w, Calls Tryd.prog 42 #[.string (bs (cut1 46 l).1), .string ⟨#[45]⟩] w fun e w' => e = .returned (.string (bs (unm (cut1 46 l).1))) ∧ Below w.heap.size w w' := fun w => by
    have := trimPrefix_ (bs (cut1 46 l).1) ⟨#[45]⟩ w
    have e := trim_minus (cut1 46 l).1
    simp only [e] at this
    exact this
  have hlen := Nat.le_trans (unm_len' (cut1 46 l).1) (cut1_len' 46 l).1
  have hlen2 := (cut1_len' 46 l).2
  unfold readDig
  simp only
  generalize hwh : (cut1 46 l).1 = whole at *
  generalize hpa : (cut1 46 l).2 = part at *
  generalize hun : unm whole = uns at *
  by_cases c1 : decide (46 ∈ l) ≠ decide (0 < part.length)
  · rw [if_pos c1]
    refine rd_no1 (bs l) (bs whole) (bs part) (bs uns) (decide (46 ∈ l)) w hcut htrim ?_ ?_ hO
    · rw [bs_size]; exact eq_false c1
    · rw [bs_size]; exact beq_eq_false_iff_ne.2 c1
  · rw [if_neg c1]
    have c1' : decide (46 ∈ l) = decide (0 < part.length) := Classical.byContradiction c1
    have f1 : (decide (46 ∈ l) = decide (0 < (bs part).size)) = True := by rw [bs_size]; exact eq_true c1'
    have f1x : (decide (46 ∈ l) == decide (0 < (bs part).size)) = true := by rw [bs_size]; exact beq_iff_eq.2 c1'
    by_cases c2 : 9 < part.length
    · rw [if_pos c2]
      refine rd_no2 (bs l) (bs whole) (bs part) (bs uns) _ w hcut htrim f1 f1x ?_ ?_ ?_ hO
      · rw [bs_size]; exact decide_eq_true (by omega)
      · rw [bs_size]; exact eq_false (by omega)
      · rw [bs_size]; exact eq_true (by omega)
    · rw [if_neg c2]
      have f2 : decide (9 < ((bs part).size : Int)) = false := by rw [bs_size]; exact decide_eq_false (by omega)
      have f2x : (((bs part).size : Int) ≤ 9) = True := by rw [bs_size]; exact eq_true (by omega)
      have f2y : (9 < ((bs part).size : Int)) = False := by rw [bs_size]; exact eq_false (by omega)
      by_cases c3 : 1 ≤ uns.length ∧ uns.length ≤ 9
      · rw [if_neg (fun h => h c3)]
        have hwi : ∀ w, Calls Tryd.prog 31 #[.int .i64 (bs uns).size, .int .i64 1, .int .i64 9] w fun e w' => e = .returned (.bool true) ∧ Drawn0 w w' := fun w =>
          impl_within.calls _ _ _ true w (by unfold impl_within.f; rw [bs_size, if_pos (by omega), decide_eq_true (by omega)])
        have htr : ∀ w, Calls Tryd.prog 43 #[.string (bs uns ++ bs part), .string ⟨#[48, 49, 50, 51, 52, 53, 54, 55, 56, 57]⟩] w fun e w' => e = .returned (.string (bs (trimS (uns ++ part) digs10))) ∧ Below w.heap.size w w' := fun w => by
          rw [bs_append]
          exact trim_ (bs (uns ++ part)) ⟨#[48, 49, 50, 51, 52, 53, 54, 55, 56, 57]⟩ (by rw [bs_size]; simp; omega) (by decide) (by decide) w
        have hcat : 9223372036854775807 < (bs uns).size + (bs part).size ↔ False := ⟨fun h => by rw [bs_size, bs_size] at h; omega, fun h => h.elim⟩
        by_cases c4 : (uns ++ part).all isD = true
        · rw [if_neg (fun h => h c4)]
          have hpl : (uns ++ part).length ≤ 18 := by simp; omega
          have hv := val_lt18' (uns ++ part) c4 hpl
          have f3 : ((bs (trimS (uns ++ part) digs10)).toList == []) = true := by rw [(trimS_nil _).2 c4, bs_list]; rfl
          by_cases c5 : uns = whole
          · rw [if_pos c5]
            obtain ⟨K, hK⟩ := digitsText_ev (val 0 (uns ++ part) : Nat) part.length (by omega) (by rw [Int.natAbs_natCast]; exact hv)
            have hdt : ∀ w, Ok_ b w → Calls Tryd.prog 67 #[.int .i64 ((val 0 (uns ++ part) : Nat) : Int), .int .i64 (bs part).size] w fun e w' => e = .returned (.string (bs (dt part.length (val 0 (uns ++ part) : Nat)))) ∧ Below w.heap.size w w' := fun w hO => by
              rw [bs_size]
              exact impl_digitsText.calls K _ _ _ w hO (hK K (Nat.le_refl _))
            have := rd_yes1 (bs l) (bs whole) (bs part) (bs uns) (bs (trimS (uns ++ part) digs10)) (bs (dt part.length (val 0 (uns ++ part) : Nat))) (val 0 (uns ++ part)) (decide (46 ∈ l)) w hcut htrim hwi hcat htr hv (by rw [bs_append]) (by rw [bs_append]; exact c4) (by rw [bs_append, bs_size]; exact hpl) f1 f1x f2 f2x f2y f3 (by rw [ba_eq, c5]; simp) hdt hO
            rw [ba_eq, bs_size] at this
            exact this
          · rw [if_neg c5]
            obtain ⟨K, hK⟩ := digitsText_ev (-(val 0 (uns ++ part) : Nat) : Int) part.length (by omega) (by rw [Int.natAbs_neg, Int.natAbs_natCast]; exact hv)
            have hdt : ∀ w, Ok_ b w → Calls Tryd.prog 67 #[.int .i64 (-((val 0 (uns ++ part) : Nat) : Int)), .int .i64 (bs part).size] w fun e w' => e = .returned (.string (bs (dt part.length (-(val 0 (uns ++ part) : Nat) : Int)))) ∧ Below w.heap.size w w' := fun w hO => by
              rw [bs_size]
              exact impl_digitsText.calls K _ _ _ w hO (hK K (Nat.le_refl _))
            have := rd_yes2 (bs l) (bs whole) (bs part) (bs uns) (bs (trimS (uns ++ part) digs10)) (bs (dt part.length (-(val 0 (uns ++ part) : Nat) : Int))) (val 0 (uns ++ part)) (decide (46 ∈ l)) w hcut htrim hwi hcat htr hv (by rw [bs_append]) (by rw [bs_append]; exact c4) (by rw [bs_append, bs_size]; exact hpl) f1 f1x f2 f2x f2y f3 (by rw [ba_eq]; exact decide_eq_false c5) hdt hO
            rw [ba_eq, bs_size] at this
            exact this
        · rw [if_pos c4]
          exact rd_no4 (bs l) (bs whole) (bs part) (bs uns) (bs (trimS (uns ++ part) digs10)) _ w hcut htrim hwi hcat htr f1 f1x f2 f2x f2y (by rw [bs_list, beq_eq_false_iff_ne]; exact fun h => c4 ((trimS_nil _).1 h)) hO
      · rw [if_pos c3]
        have hwi : ∀ w, Calls Tryd.prog 31 #[.int .i64 (bs uns).size, .int .i64 1, .int .i64 9] w fun e w' => e = .returned (.bool false) ∧ Drawn0 w w' := fun w =>
          impl_within.calls _ _ _ false w (by
            unfold impl_within.f
            rw [bs_size]
            by_cases c : (uns.length : Int) ≥ 1
            · rw [if_pos c, decide_eq_false (by omega)]
            · rw [if_neg c])
        exact rd_no3 (bs l) (bs whole) (bs part) (bs uns) _ w hcut htrim hwi f1 f1x f2 f2x f2y hO
end Go.Proofs.YtoncbpohjdackaaDoor.TX
