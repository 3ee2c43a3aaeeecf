/- The walks of LatitudeNamed. -/
import Derived.Test.YthbdlfmgeebnaaaDoorWalkA
namespace Go.Proofs.YthbdlfmgeebnaaaDoor
open Go.RowKit
theorem named1 (s : ByteArray) (h1 : (([114, 101, 100, 117, 99, 101, 100] : List UInt8) == s.toList) = true) (w : World) : Calls Tryd.prog 7 #[.string s] w fun e w' => e = .returned (.int .i64 1) ∧ Below w.heap.size w w' := by
  go_enter Tryd.func7, Tryd.ntmps7
  go_wp2
  refine wp_loop_rounds 1 ?_
  rw [rounds_succ]
  go_wp2
  go_ret
  exact ⟨rfl, (Below.refl _ _).alloc (Nat.le_refl _) _⟩
theorem named2 (s : ByteArray) (h1 : (([114, 101, 100, 117, 99, 101, 100] : List UInt8) == s.toList) = false) (h2 : (([103, 101, 111, 99, 101, 110, 116, 114, 105, 99] : List UInt8) == s.toList) = true) (w : World) : Calls Tryd.prog 7 #[.string s] w fun e w' => e = .returned (.int .i64 2) ∧ Below w.heap.size w w' := by
  go_enter Tryd.func7, Tryd.ntmps7
  go_wp2
  refine wp_loop_rounds 2 ?_
  rw [rounds_succ]
  go_wp2
  rw [rounds_succ]
  go_wp2
  go_ret
  exact ⟨rfl, (Below.refl _ _).alloc (Nat.le_refl _) _⟩
theorem named3 (s : ByteArray) (h1 : (([114, 101, 100, 117, 99, 101, 100] : List UInt8) == s.toList) = false) (h2 : (([103, 101, 111, 99, 101, 110, 116, 114, 105, 99] : List UInt8) == s.toList) = false) (h3 : (([99, 111, 110, 102, 111, 114, 109, 97, 108] : List UInt8) == s.toList) = true) (w : World) : Calls Tryd.prog 7 #[.string s] w fun e w' => e = .returned (.int .i64 3) ∧ Below w.heap.size w w' := by
  go_enter Tryd.func7, Tryd.ntmps7
  go_wp2
  refine wp_loop_rounds 3 ?_
  rw [rounds_succ]
  go_wp2
  rw [rounds_succ]
  go_wp2
  rw [rounds_succ]
  go_wp2
  go_ret
  exact ⟨rfl, (Below.refl _ _).alloc (Nat.le_refl _) _⟩
theorem named4 (s : ByteArray) (h1 : (([114, 101, 100, 117, 99, 101, 100] : List UInt8) == s.toList) = false) (h2 : (([103, 101, 111, 99, 101, 110, 116, 114, 105, 99] : List UInt8) == s.toList) = false) (h3 : (([99, 111, 110, 102, 111, 114, 109, 97, 108] : List UInt8) == s.toList) = false) (h4 : (([97, 117, 116, 104, 97, 108, 105, 99] : List UInt8) == s.toList) = true) (w : World) : Calls Tryd.prog 7 #[.string s] w fun e w' => e = .returned (.int .i64 4) ∧ Below w.heap.size w w' := by
  go_enter Tryd.func7, Tryd.ntmps7
  go_wp2
  refine wp_loop_rounds 4 ?_
  rw [rounds_succ]
  go_wp2
  rw [rounds_succ]
  go_wp2
  rw [rounds_succ]
  go_wp2
  rw [rounds_succ]
  go_wp2
  go_ret
  exact ⟨rfl, (Below.refl _ _).alloc (Nat.le_refl _) _⟩
theorem named5 (s : ByteArray) (h1 : (([114, 101, 100, 117, 99, 101, 100] : List UInt8) == s.toList) = false) (h2 : (([103, 101, 111, 99, 101, 110, 116, 114, 105, 99] : List UInt8) == s.toList) = false) (h3 : (([99, 111, 110, 102, 111, 114, 109, 97, 108] : List UInt8) == s.toList) = false) (h4 : (([97, 117, 116, 104, 97, 108, 105, 99] : List UInt8) == s.toList) = false) (h5 : (([114, 101, 99, 116, 105, 102, 121, 105, 110, 103] : List UInt8) == s.toList) = true) (w : World) : Calls Tryd.prog 7 #[.string s] w fun e w' => e = .returned (.int .i64 5) ∧ Below w.heap.size w w' := by
  go_enter Tryd.func7, Tryd.ntmps7
  go_wp2
  refine wp_loop_rounds 5 ?_
  rw [rounds_succ]
  go_wp2
  rw [rounds_succ]
  go_wp2
  rw [rounds_succ]
  go_wp2
  rw [rounds_succ]
  go_wp2
  rw [rounds_succ]
  go_wp2
  go_ret
  exact ⟨rfl, (Below.refl _ _).alloc (Nat.le_refl _) _⟩
theorem named6 (s : ByteArray) (h1 : (([114, 101, 100, 117, 99, 101, 100] : List UInt8) == s.toList) = false) (h2 : (([103, 101, 111, 99, 101, 110, 116, 114, 105, 99] : List UInt8) == s.toList) = false) (h3 : (([99, 111, 110, 102, 111, 114, 109, 97, 108] : List UInt8) == s.toList) = false) (h4 : (([97, 117, 116, 104, 97, 108, 105, 99] : List UInt8) == s.toList) = false) (h5 : (([114, 101, 99, 116, 105, 102, 121, 105, 110, 103] : List UInt8) == s.toList) = false) (h6 : (([105, 115, 111, 109, 101, 116, 114, 105, 99] : List UInt8) == s.toList) = true) (w : World) : Calls Tryd.prog 7 #[.string s] w fun e w' => e = .returned (.int .i64 6) ∧ Below w.heap.size w w' := by
  go_enter Tryd.func7, Tryd.ntmps7
  go_wp2
  refine wp_loop_rounds 6 ?_
  rw [rounds_succ]
  go_wp2
  rw [rounds_succ]
  go_wp2
  rw [rounds_succ]
  go_wp2
  rw [rounds_succ]
  go_wp2
  rw [rounds_succ]
  go_wp2
  rw [rounds_succ]
  go_wp2
  go_ret
  exact ⟨rfl, (Below.refl _ _).alloc (Nat.le_refl _) _⟩
theorem named7 (s : ByteArray) (h1 : (([114, 101, 100, 117, 99, 101, 100] : List UInt8) == s.toList) = false) (h2 : (([103, 101, 111, 99, 101, 110, 116, 114, 105, 99] : List UInt8) == s.toList) = false) (h3 : (([99, 111, 110, 102, 111, 114, 109, 97, 108] : List UInt8) == s.toList) = false) (h4 : (([97, 117, 116, 104, 97, 108, 105, 99] : List UInt8) == s.toList) = false) (h5 : (([114, 101, 99, 116, 105, 102, 121, 105, 110, 103] : List UInt8) == s.toList) = false) (h6 : (([105, 115, 111, 109, 101, 116, 114, 105, 99] : List UInt8) == s.toList) = false) (w : World) : Calls Tryd.prog 7 #[.string s] w fun e w' => e = .returned (.int .i64 0) ∧ Below w.heap.size w w' := by
  go_enter Tryd.func7, Tryd.ntmps7
  go_wp2
  refine wp_loop_rounds 7 ?_
  rw [rounds_succ]
  go_wp2
  rw [rounds_succ]
  go_wp2
  rw [rounds_succ]
  go_wp2
  rw [rounds_succ]
  go_wp2
  rw [rounds_succ]
  go_wp2
  rw [rounds_succ]
  go_wp2
  rw [rounds_succ]
  go_wp2
  go_ret
  exact ⟨rfl, (Below.refl _ _).alloc (Nat.le_refl _) _⟩
theorem index0 (s : ByteArray) (h0 : (s.toList == ([] : List UInt8)) = true) (w : World) (h : Table w) : Calls Tryd.prog 8 #[.string s] w fun e w' => e = .returned (.int .i64 0) ∧ w' = w := by
  have c0 := h 0 (by omega)
  have c1 := h 1 (by omega)
  have c2 := h 2 (by omega)
  have c3 := h 3 (by omega)
  have c4 := h 4 (by omega)
  have c5 := h 5 (by omega)
  have c6 := h 6 (by omega)
  simp only [nm] at c0 c1 c2 c3 c4 c5 c6
  go_enter Tryd.func8, Tryd.ntmps8
  go_wp2
  refine wp_loop_rounds 1 ?_
  rw [rounds_succ]
  go_wp2
  go_ret
  exact ⟨rfl, rfl⟩
theorem index1 (s : ByteArray) (h0 : (s.toList == ([] : List UInt8)) = false) (h1 : (s.toList == ([114, 101, 100, 117, 99, 101, 100] : List UInt8)) = true) (w : World) (h : Table w) : Calls Tryd.prog 8 #[.string s] w fun e w' => e = .returned (.int .i64 1) ∧ w' = w := by
  have c0 := h 0 (by omega)
  have c1 := h 1 (by omega)
  have c2 := h 2 (by omega)
  have c3 := h 3 (by omega)
  have c4 := h 4 (by omega)
  have c5 := h 5 (by omega)
  have c6 := h 6 (by omega)
  simp only [nm] at c0 c1 c2 c3 c4 c5 c6
  go_enter Tryd.func8, Tryd.ntmps8
  go_wp2
  refine wp_loop_rounds 2 ?_
  rw [rounds_succ]
  go_wp2
  rw [rounds_succ]
  go_wp2
  go_ret
  exact ⟨rfl, rfl⟩
theorem index2 (s : ByteArray) (h0 : (s.toList == ([] : List UInt8)) = false) (h1 : (s.toList == ([114, 101, 100, 117, 99, 101, 100] : List UInt8)) = false) (h2 : (s.toList == ([103, 101, 111, 99, 101, 110, 116, 114, 105, 99] : List UInt8)) = true) (w : World) (h : Table w) : Calls Tryd.prog 8 #[.string s] w fun e w' => e = .returned (.int .i64 2) ∧ w' = w := by
  have c0 := h 0 (by omega)
  have c1 := h 1 (by omega)
  have c2 := h 2 (by omega)
  have c3 := h 3 (by omega)
  have c4 := h 4 (by omega)
  have c5 := h 5 (by omega)
  have c6 := h 6 (by omega)
  simp only [nm] at c0 c1 c2 c3 c4 c5 c6
  go_enter Tryd.func8, Tryd.ntmps8
  go_wp2
  refine wp_loop_rounds 3 ?_
  rw [rounds_succ]
  go_wp2
  rw [rounds_succ]
  go_wp2
  rw [rounds_succ]
  go_wp2
  go_ret
  exact ⟨rfl, rfl⟩
theorem index3 (s : ByteArray) (h0 : (s.toList == ([] : List UInt8)) = false) (h1 : (s.toList == ([114, 101, 100, 117, 99, 101, 100] : List UInt8)) = false) (h2 : (s.toList == ([103, 101, 111, 99, 101, 110, 116, 114, 105, 99] : List UInt8)) = false) (h3 : (s.toList == ([99, 111, 110, 102, 111, 114, 109, 97, 108] : List UInt8)) = true) (w : World) (h : Table w) : Calls Tryd.prog 8 #[.string s] w fun e w' => e = .returned (.int .i64 3) ∧ w' = w := by
  have c0 := h 0 (by omega)
  have c1 := h 1 (by omega)
  have c2 := h 2 (by omega)
  have c3 := h 3 (by omega)
  have c4 := h 4 (by omega)
  have c5 := h 5 (by omega)
  have c6 := h 6 (by omega)
  simp only [nm] at c0 c1 c2 c3 c4 c5 c6
  go_enter Tryd.func8, Tryd.ntmps8
  go_wp2
  refine wp_loop_rounds 4 ?_
  rw [rounds_succ]
  go_wp2
  rw [rounds_succ]
  go_wp2
  rw [rounds_succ]
  go_wp2
  rw [rounds_succ]
  go_wp2
  go_ret
  exact ⟨rfl, rfl⟩
theorem index4 (s : ByteArray) (h0 : (s.toList == ([] : List UInt8)) = false) (h1 : (s.toList == ([114, 101, 100, 117, 99, 101, 100] : List UInt8)) = false) (h2 : (s.toList == ([103, 101, 111, 99, 101, 110, 116, 114, 105, 99] : List UInt8)) = false) (h3 : (s.toList == ([99, 111, 110, 102, 111, 114, 109, 97, 108] : List UInt8)) = false) (h4 : (s.toList == ([97, 117, 116, 104, 97, 108, 105, 99] : List UInt8)) = true) (w : World) (h : Table w) : Calls Tryd.prog 8 #[.string s] w fun e w' => e = .returned (.int .i64 4) ∧ w' = w := by
  have c0 := h 0 (by omega)
  have c1 := h 1 (by omega)
  have c2 := h 2 (by omega)
  have c3 := h 3 (by omega)
  have c4 := h 4 (by omega)
  have c5 := h 5 (by omega)
  have c6 := h 6 (by omega)
  simp only [nm] at c0 c1 c2 c3 c4 c5 c6
  go_enter Tryd.func8, Tryd.ntmps8
  go_wp2
  refine wp_loop_rounds 5 ?_
  rw [rounds_succ]
  go_wp2
  rw [rounds_succ]
  go_wp2
  rw [rounds_succ]
  go_wp2
  rw [rounds_succ]
  go_wp2
  rw [rounds_succ]
  go_wp2
  go_ret
  exact ⟨rfl, rfl⟩
theorem index5 (s : ByteArray) (h0 : (s.toList == ([] : List UInt8)) = false) (h1 : (s.toList == ([114, 101, 100, 117, 99, 101, 100] : List UInt8)) = false) (h2 : (s.toList == ([103, 101, 111, 99, 101, 110, 116, 114, 105, 99] : List UInt8)) = false) (h3 : (s.toList == ([99, 111, 110, 102, 111, 114, 109, 97, 108] : List UInt8)) = false) (h4 : (s.toList == ([97, 117, 116, 104, 97, 108, 105, 99] : List UInt8)) = false) (h5 : (s.toList == ([114, 101, 99, 116, 105, 102, 121, 105, 110, 103] : List UInt8)) = true) (w : World) (h : Table w) : Calls Tryd.prog 8 #[.string s] w fun e w' => e = .returned (.int .i64 5) ∧ w' = w := by
  have c0 := h 0 (by omega)
  have c1 := h 1 (by omega)
  have c2 := h 2 (by omega)
  have c3 := h 3 (by omega)
  have c4 := h 4 (by omega)
  have c5 := h 5 (by omega)
  have c6 := h 6 (by omega)
  simp only [nm] at c0 c1 c2 c3 c4 c5 c6
  go_enter Tryd.func8, Tryd.ntmps8
  go_wp2
  refine wp_loop_rounds 6 ?_
  rw [rounds_succ]
  go_wp2
  rw [rounds_succ]
  go_wp2
  rw [rounds_succ]
  go_wp2
  rw [rounds_succ]
  go_wp2
  rw [rounds_succ]
  go_wp2
  rw [rounds_succ]
  go_wp2
  go_ret
  exact ⟨rfl, rfl⟩
theorem index6 (s : ByteArray) (h0 : (s.toList == ([] : List UInt8)) = false) (h1 : (s.toList == ([114, 101, 100, 117, 99, 101, 100] : List UInt8)) = false) (h2 : (s.toList == ([103, 101, 111, 99, 101, 110, 116, 114, 105, 99] : List UInt8)) = false) (h3 : (s.toList == ([99, 111, 110, 102, 111, 114, 109, 97, 108] : List UInt8)) = false) (h4 : (s.toList == ([97, 117, 116, 104, 97, 108, 105, 99] : List UInt8)) = false) (h5 : (s.toList == ([114, 101, 99, 116, 105, 102, 121, 105, 110, 103] : List UInt8)) = false) (h6 : (s.toList == ([105, 115, 111, 109, 101, 116, 114, 105, 99] : List UInt8)) = true) (w : World) (h : Table w) : Calls Tryd.prog 8 #[.string s] w fun e w' => e = .returned (.int .i64 6) ∧ w' = w := by
  have c0 := h 0 (by omega)
  have c1 := h 1 (by omega)
  have c2 := h 2 (by omega)
  have c3 := h 3 (by omega)
  have c4 := h 4 (by omega)
  have c5 := h 5 (by omega)
  have c6 := h 6 (by omega)
  simp only [nm] at c0 c1 c2 c3 c4 c5 c6
  go_enter Tryd.func8, Tryd.ntmps8
  go_wp2
  refine wp_loop_rounds 7 ?_
  rw [rounds_succ]
  go_wp2
  rw [rounds_succ]
  go_wp2
  rw [rounds_succ]
  go_wp2
  rw [rounds_succ]
  go_wp2
  rw [rounds_succ]
  go_wp2
  rw [rounds_succ]
  go_wp2
  rw [rounds_succ]
  go_wp2
  go_ret
  exact ⟨rfl, rfl⟩
theorem index7 (s : ByteArray) (h0 : (s.toList == ([] : List UInt8)) = false) (h1 : (s.toList == ([114, 101, 100, 117, 99, 101, 100] : List UInt8)) = false) (h2 : (s.toList == ([103, 101, 111, 99, 101, 110, 116, 114, 105, 99] : List UInt8)) = false) (h3 : (s.toList == ([99, 111, 110, 102, 111, 114, 109, 97, 108] : List UInt8)) = false) (h4 : (s.toList == ([97, 117, 116, 104, 97, 108, 105, 99] : List UInt8)) = false) (h5 : (s.toList == ([114, 101, 99, 116, 105, 102, 121, 105, 110, 103] : List UInt8)) = false) (h6 : (s.toList == ([105, 115, 111, 109, 101, 116, 114, 105, 99] : List UInt8)) = false) (w : World) (h : Table w) : Calls Tryd.prog 8 #[.string s] w fun e w' => e = .returned (.int .i64 0) ∧ w' = w := by
  have c0 := h 0 (by omega)
  have c1 := h 1 (by omega)
  have c2 := h 2 (by omega)
  have c3 := h 3 (by omega)
  have c4 := h 4 (by omega)
  have c5 := h 5 (by omega)
  have c6 := h 6 (by omega)
  simp only [nm] at c0 c1 c2 c3 c4 c5 c6
  go_enter Tryd.func8, Tryd.ntmps8
  go_wp2
  refine wp_loop_rounds 8 ?_
  rw [rounds_succ]
  go_wp2
  rw [rounds_succ]
  go_wp2
  rw [rounds_succ]
  go_wp2
  rw [rounds_succ]
  go_wp2
  rw [rounds_succ]
  go_wp2
  rw [rounds_succ]
  go_wp2
  rw [rounds_succ]
  go_wp2
  rw [rounds_succ]
  go_wp2
  go_ret
  exact ⟨rfl, rfl⟩
theorem named_any (s : ByteArray) : ∃ r : Int, (∀ w, Calls Tryd.prog 7 #[.string s] w fun e w' => e = .returned (.int .i64 r) ∧ Below w.heap.size w w') ∧ (∀ w, Table w → Calls Tryd.prog 8 #[.string s] w fun e w' => e = .returned (.int .i64 r) ∧ w' = w) := by
  by_cases e1 : s.toList = [114, 101, 100, 117, 99, 101, 100]
  · exact ⟨_, fun w => named1 s (by rw [e1]; rfl) w, fun w h => index1 s (by rw [e1]; rfl) (by rw [e1]; rfl) w h⟩
  by_cases e2 : s.toList = [103, 101, 111, 99, 101, 110, 116, 114, 105, 99]
  · exact ⟨_, fun w => named2 s (by rw [e2]; rfl) (by rw [e2]; rfl) w, fun w h => index2 s (by rw [e2]; rfl) (by rw [e2]; rfl) (by rw [e2]; rfl) w h⟩
  by_cases e3 : s.toList = [99, 111, 110, 102, 111, 114, 109, 97, 108]
  · exact ⟨_, fun w => named3 s (by rw [e3]; rfl) (by rw [e3]; rfl) (by rw [e3]; rfl) w, fun w h => index3 s (by rw [e3]; rfl) (by rw [e3]; rfl) (by rw [e3]; rfl) (by rw [e3]; rfl) w h⟩
  by_cases e4 : s.toList = [97, 117, 116, 104, 97, 108, 105, 99]
  · exact ⟨_, fun w => named4 s (by rw [e4]; rfl) (by rw [e4]; rfl) (by rw [e4]; rfl) (by rw [e4]; rfl) w, fun w h => index4 s (by rw [e4]; rfl) (by rw [e4]; rfl) (by rw [e4]; rfl) (by rw [e4]; rfl) (by rw [e4]; rfl) w h⟩
  by_cases e5 : s.toList = [114, 101, 99, 116, 105, 102, 121, 105, 110, 103]
  · exact ⟨_, fun w => named5 s (by rw [e5]; rfl) (by rw [e5]; rfl) (by rw [e5]; rfl) (by rw [e5]; rfl) (by rw [e5]; rfl) w, fun w h => index5 s (by rw [e5]; rfl) (by rw [e5]; rfl) (by rw [e5]; rfl) (by rw [e5]; rfl) (by rw [e5]; rfl) (by rw [e5]; rfl) w h⟩
  by_cases e6 : s.toList = [105, 115, 111, 109, 101, 116, 114, 105, 99]
  · exact ⟨_, fun w => named6 s (by rw [e6]; rfl) (by rw [e6]; rfl) (by rw [e6]; rfl) (by rw [e6]; rfl) (by rw [e6]; rfl) (by rw [e6]; rfl) w, fun w h => index6 s (by rw [e6]; rfl) (by rw [e6]; rfl) (by rw [e6]; rfl) (by rw [e6]; rfl) (by rw [e6]; rfl) (by rw [e6]; rfl) (by rw [e6]; rfl) w h⟩
  by_cases e0 : s.toList = []
  · exact ⟨_, fun w => named7 s (by rw [e0]; rfl) (by rw [e0]; rfl) (by rw [e0]; rfl) (by rw [e0]; rfl) (by rw [e0]; rfl) (by rw [e0]; rfl) w, fun w h => index0 s (by rw [e0]; rfl) w h⟩
  · exact ⟨_, fun w => named7 s (beq_false_of_ne (Ne.symm e1)) (beq_false_of_ne (Ne.symm e2)) (beq_false_of_ne (Ne.symm e3)) (beq_false_of_ne (Ne.symm e4)) (beq_false_of_ne (Ne.symm e5)) (beq_false_of_ne (Ne.symm e6)) w, fun w h => index7 s (beq_false_of_ne e0) (beq_false_of_ne e1) (beq_false_of_ne e2) (beq_false_of_ne e3) (beq_false_of_ne e4) (beq_false_of_ne e5) (beq_false_of_ne e6) w h⟩
theorem law2 (s : ByteArray) (w : World) (h : Table w) (h0 : 0 < w.heap.size) : Calls Tryd.prog 4 #[.string s] w fun e w' => e = .returned (.bool true) ∧ Below w.heap.size w w' := by
  obtain ⟨r, hs, hi⟩ := named_any s
  go_enter Tryd.func4, Tryd.ntmps4
  go_wp2_with (go_at_call 7; refine (hs w).mono ?_; rintro e w1 ⟨rfl, hb⟩)
  · go_ret
    exact ⟨rfl, Below.refl _ _⟩
  · have h1 := hi w1 (h.below h0 hb)
    go_wp2_with (go_at_call 8; refine h1.mono ?_; rintro e w2 ⟨rfl, rfl⟩)
    go_ret
    exact ⟨rfl, hb⟩
end Go.Proofs.YthbdlfmgeebnaaaDoor
