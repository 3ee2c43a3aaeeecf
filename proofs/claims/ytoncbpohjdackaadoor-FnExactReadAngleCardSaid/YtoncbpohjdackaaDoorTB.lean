/- Texts cut and split at a byte. -/
import Derived.Lib.IndexMore
import Derived.Lib.Strings
import Derived.Test.YtoncbpohjdackaaDoorTA
namespace Go.TX
open Go.Lib

/-- What stands before the first c, and behind it. -/
def cut1 (c : UInt8) : List UInt8 → List UInt8 × List UInt8
  | [] => ([], [])
  | b :: l => if b = c then ([], l) else (b :: (cut1 c l).1, (cut1 c l).2)
/-- The parts between c's. -/
def splitB (c : UInt8) : List UInt8 → List (List UInt8)
  | [] => [[]]
  | b :: l => if b = c then [] :: splitB c l else match splitB c l with | [] => [[b]] | x :: r => (b :: x) :: r

theorem index_one (c : UInt8) : ∀ l : List UInt8, (c ∉ l ∧ index l [c] = -1) ∨ ∃ i : Nat, index l [c] = i ∧ l.take i = (cut1 c l).1 ∧ l.drop (i + 1) = (cut1 c l).2 ∧ c ∈ l
  | [] => .inl ⟨by simp, rfl⟩
  | b :: l => by
    by_cases h : b = c
    · subst h
      refine .inr ⟨0, ?_, by simp [cut1], by simp [cut1], by simp⟩
      unfold index
      simp
    · have hb : ¬ (([c] : List UInt8).isPrefixOf (b :: l) = true) := by
        simp [List.isPrefixOf, Ne.symm h]
      rcases index_one c l with ⟨h1, h2⟩ | ⟨i, h1, h2, h3, h4⟩
      · refine .inl ⟨by simp [Ne.symm h, h1], ?_⟩
        unfold index
        rw [if_neg hb, h2]
        rfl
      · refine .inr ⟨i + 1, ?_, by simp [cut1, h, h2], by simp [cut1, h, h3], by simp [h4]⟩
        unfold index
        rw [if_neg hb, h1]
        have : ((i : Int) == -1) = false := by rw [beq_eq_false_iff_ne]; omega
        simp [this]
theorem cut1_none {c : UInt8} : ∀ {l : List UInt8}, c ∉ l → cut1 c l = (l, [])
  | [], _ => rfl
  | b :: l, h => by
    simp only [List.mem_cons, not_or] at h
    rw [cut1, if_neg (Ne.symm h.1), cut1_none h.2]
theorem cut_eq (c : UInt8) (l : List UInt8) : cut l [c] = ((cut1 c l).1, (cut1 c l).2, decide (c ∈ l)) := by
  unfold cut
  rcases index_one c l with ⟨h1, h2⟩ | ⟨i, h1, h2, h3, h4⟩
  · rw [h2, if_neg (by omega), cut1_none h1]; simp [h1]
  · rw [h1, if_pos (by omega)]
    simp only [Int.toNat_natCast, List.length_singleton, h2, h3, h4, decide_true]
theorem cut1_parts {c : UInt8} : ∀ {l : List UInt8}, c ∈ l → l = (cut1 c l).1 ++ c :: (cut1 c l).2
  | [], h => by simp at h
  | b :: l, h => by
    by_cases hb : b = c
    · subst hb; simp [cut1]
    · rw [cut1, if_neg hb]
      have : c ∈ l := by simpa [Ne.symm hb] using h
      simp only [List.cons_append]
      rw [← cut1_parts this]
theorem cut1_first {c : UInt8} : ∀ (l : List UInt8), c ∉ (cut1 c l).1
  | [] => by simp [cut1]
  | b :: l => by
    by_cases hb : b = c
    · subst hb; simp [cut1]
    · rw [cut1, if_neg hb]
      simp [Ne.symm hb, cut1_first l]
theorem cut1_append {c : UInt8} : ∀ {x : List UInt8} (y : List UInt8), c ∉ x → cut1 c (x ++ c :: y) = (x, y)
  | [], y, _ => by simp [cut1]
  | b :: x, y, h => by
    simp only [List.mem_cons, not_or] at h
    rw [List.cons_append, cut1, if_neg (Ne.symm h.1), cut1_append y h.2]
theorem split_ne (c : UInt8) : ∀ l, splitB c l ≠ []
  | [] => by simp [splitB]
  | b :: l => by
    rw [splitB]
    split
    · simp
    · split <;> simp
theorem split_none {c : UInt8} : ∀ {l : List UInt8}, c ∉ l → splitB c l = [l]
  | [], _ => rfl
  | b :: l, h => by
    simp only [List.mem_cons, not_or] at h
    rw [splitB, if_neg (Ne.symm h.1), split_none h.2]
theorem split_cut {c : UInt8} : ∀ {l : List UInt8}, c ∈ l → splitB c l = (cut1 c l).1 :: splitB c (cut1 c l).2
  | [], h => by simp at h
  | b :: l, h => by
    by_cases hb : b = c
    · subst hb; simp [cut1, splitB]
    · rw [cut1, if_neg hb, splitB, if_neg hb]
      have : c ∈ l := by simpa [Ne.symm hb] using h
      rw [split_cut this]
theorem split_app {c : UInt8} (x y : List UInt8) (h : c ∉ x) : splitB c (x ++ c :: y) = x :: splitB c y := by
  rw [split_cut (by simp), cut1_append y h]
/-- Exactly two parts. -/
theorem split_two {c : UInt8} {l x y : List UInt8} (h : splitB c l = [x, y]) : cut1 c l = (x, y) ∧ c ∈ l ∧ c ∉ y := by
  by_cases h1 : c ∈ l
  · rw [split_cut h1] at h
    by_cases h2 : c ∈ (cut1 c l).2
    · rw [split_cut h2] at h
      simp only [List.cons.injEq] at h
      exact absurd h.2.2 (split_ne _ _)
    · rw [split_none h2] at h
      simp only [List.cons.injEq, and_true] at h
      rw [h.2] at h2
      exact ⟨by rw [← h.1, ← h.2], h1, h2⟩
  · rw [split_none h1] at h
    simp at h
theorem split_two_of {c : UInt8} {l : List UInt8} (h1 : c ∈ l) (h2 : c ∉ (cut1 c l).2) : splitB c l = [(cut1 c l).1, (cut1 c l).2] := by
  rw [split_cut h1, split_none h2]
/-- One part, or more than two. -/
theorem split_other {c : UInt8} {l : List UInt8} (h : ¬ (c ∈ l ∧ c ∉ (cut1 c l).2)) : (splitB c l).length ≠ 2 := by
  by_cases h1 : c ∈ l
  · have h2 : c ∈ (cut1 c l).2 := Classical.byContradiction fun h2 => h ⟨h1, h2⟩
    rw [split_cut h1, split_cut h2]
    have := split_ne c (cut1 c (cut1 c l).2).2
    cases hs : splitB c (cut1 c (cut1 c l).2).2 with
    | nil => exact absurd hs this
    | cons a r => simp
  · rw [split_none h1]; simp
/-- Without a leading minus. -/
def unm (l : List UInt8) : List UInt8 := match l with | [] => [] | b :: r => if b = 45 then r else l
theorem trim_minus (l : List UInt8) : trimPrefix l [45] = unm l := by
  cases l with
  | nil => rfl
  | cons b r =>
    by_cases h : b = 45
    · subst h; simp [trimPrefix, hasPrefix, unm]
    · have h' : (45 : UInt8) ≠ b := Ne.symm h
      simp [trimPrefix, hasPrefix, unm, h, h']
end Go.TX
