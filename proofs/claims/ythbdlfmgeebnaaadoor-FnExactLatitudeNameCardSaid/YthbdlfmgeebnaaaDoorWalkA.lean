/- The walks of LatitudeName: of the program's table and of the reference's list. No condition but what the table holds. -/
import Derived.Test.YthbdlfmgeebnaaaDoorProg
import Derived.WalkKit
namespace Go.Proofs.YthbdlfmgeebnaaaDoor
open Go.RowKit
def nm : Nat → ByteArray
  | 1 => { data := #[114, 101, 100, 117, 99, 101, 100] }
  | 2 => { data := #[103, 101, 111, 99, 101, 110, 116, 114, 105, 99] }
  | 3 => { data := #[99, 111, 110, 102, 111, 114, 109, 97, 108] }
  | 4 => { data := #[97, 117, 116, 104, 97, 108, 105, 99] }
  | 5 => { data := #[114, 101, 99, 116, 105, 102, 121, 105, 110, 103] }
  | 6 => { data := #[105, 115, 111, 109, 101, 116, 114, 105, 99] }
  | _ => { data := #[] }
theorem impl1 (w : World) (hc : w.cell? ⟨0, 1, none⟩ = some (.string (nm 1))) : Calls Tryd.prog 6 #[.int .i64 1] w fun e w' => e = .returned (.string (nm 1)) ∧ w' = w := by
  go_enter Tryd.func6, Tryd.ntmps6
  go_wp2
  go_ret
  exact ⟨rfl, rfl⟩
theorem spec1 (w : World) : Calls Tryd.prog 5 #[.int .i64 1] w fun e w' => e = .returned (.string (nm 1)) ∧ Below w.heap.size w w' := by
  go_enter Tryd.func5, Tryd.ntmps5
  go_wp2
  go_ret
  exact ⟨rfl, (Below.refl _ _).alloc (Nat.le_refl _) _⟩
theorem impl2 (w : World) (hc : w.cell? ⟨0, 2, none⟩ = some (.string (nm 2))) : Calls Tryd.prog 6 #[.int .i64 2] w fun e w' => e = .returned (.string (nm 2)) ∧ w' = w := by
  go_enter Tryd.func6, Tryd.ntmps6
  go_wp2
  go_ret
  exact ⟨rfl, rfl⟩
theorem spec2 (w : World) : Calls Tryd.prog 5 #[.int .i64 2] w fun e w' => e = .returned (.string (nm 2)) ∧ Below w.heap.size w w' := by
  go_enter Tryd.func5, Tryd.ntmps5
  go_wp2
  go_ret
  exact ⟨rfl, (Below.refl _ _).alloc (Nat.le_refl _) _⟩
theorem impl3 (w : World) (hc : w.cell? ⟨0, 3, none⟩ = some (.string (nm 3))) : Calls Tryd.prog 6 #[.int .i64 3] w fun e w' => e = .returned (.string (nm 3)) ∧ w' = w := by
  go_enter Tryd.func6, Tryd.ntmps6
  go_wp2
  go_ret
  exact ⟨rfl, rfl⟩
theorem spec3 (w : World) : Calls Tryd.prog 5 #[.int .i64 3] w fun e w' => e = .returned (.string (nm 3)) ∧ Below w.heap.size w w' := by
  go_enter Tryd.func5, Tryd.ntmps5
  go_wp2
  go_ret
  exact ⟨rfl, (Below.refl _ _).alloc (Nat.le_refl _) _⟩
theorem impl4 (w : World) (hc : w.cell? ⟨0, 4, none⟩ = some (.string (nm 4))) : Calls Tryd.prog 6 #[.int .i64 4] w fun e w' => e = .returned (.string (nm 4)) ∧ w' = w := by
  go_enter Tryd.func6, Tryd.ntmps6
  go_wp2
  go_ret
  exact ⟨rfl, rfl⟩
theorem spec4 (w : World) : Calls Tryd.prog 5 #[.int .i64 4] w fun e w' => e = .returned (.string (nm 4)) ∧ Below w.heap.size w w' := by
  go_enter Tryd.func5, Tryd.ntmps5
  go_wp2
  go_ret
  exact ⟨rfl, (Below.refl _ _).alloc (Nat.le_refl _) _⟩
theorem impl5 (w : World) (hc : w.cell? ⟨0, 5, none⟩ = some (.string (nm 5))) : Calls Tryd.prog 6 #[.int .i64 5] w fun e w' => e = .returned (.string (nm 5)) ∧ w' = w := by
  go_enter Tryd.func6, Tryd.ntmps6
  go_wp2
  go_ret
  exact ⟨rfl, rfl⟩
theorem spec5 (w : World) : Calls Tryd.prog 5 #[.int .i64 5] w fun e w' => e = .returned (.string (nm 5)) ∧ Below w.heap.size w w' := by
  go_enter Tryd.func5, Tryd.ntmps5
  go_wp2
  go_ret
  exact ⟨rfl, (Below.refl _ _).alloc (Nat.le_refl _) _⟩
theorem impl6 (w : World) (hc : w.cell? ⟨0, 6, none⟩ = some (.string (nm 6))) : Calls Tryd.prog 6 #[.int .i64 6] w fun e w' => e = .returned (.string (nm 6)) ∧ w' = w := by
  go_enter Tryd.func6, Tryd.ntmps6
  go_wp2
  go_ret
  exact ⟨rfl, rfl⟩
theorem spec6 (w : World) : Calls Tryd.prog 5 #[.int .i64 6] w fun e w' => e = .returned (.string (nm 6)) ∧ Below w.heap.size w w' := by
  go_enter Tryd.func5, Tryd.ntmps5
  go_wp2
  go_ret
  exact ⟨rfl, (Below.refl _ _).alloc (Nat.le_refl _) _⟩
theorem implNo (k : Int) (h : ¬ (1 ≤ k ∧ k ≤ 6)) (w : World) : Calls Tryd.prog 6 #[.int .i64 k] w fun e w' => e = .returned (.string (nm 0)) ∧ w' = w := by
  go_enter Tryd.func6, Tryd.ntmps6
  go_wp2
  all_goals first | (exfalso; simp at *; omega) | (go_ret; exact ⟨rfl, rfl⟩)
theorem specNo (k : Int) (h : ¬ (1 ≤ k ∧ k ≤ 6)) (w : World) : Calls Tryd.prog 5 #[.int .i64 k] w fun e w' => e = .returned (.string (nm 0)) ∧ Below w.heap.size w w' := by
  go_enter Tryd.func5, Tryd.ntmps5
  go_wp2
  all_goals first | (exfalso; simp at *; omega) | (go_ret; exact ⟨rfl, Below.refl _ _⟩)
/-- The table's cells, in a world. -/
def Table (w : World) : Prop := ∀ i, i < 7 → w.cell? ⟨0, i, none⟩ = some (.string (nm i))
theorem Table.below {w w' : World} (h : Table w) (h0 : 0 < w.heap.size) (hb : Below w.heap.size w w') : Table w' := fun i hi => by rw [hb.cell (show (⟨0, i, none⟩ : Addr).block < w.heap.size from h0)]; exact h i hi
def nmOf (k : Int) : ByteArray := nm (if 1 ≤ k ∧ k ≤ 6 then k.toNat else 0)
theorem impl_any (k : Int) (w : World) (h : Table w) : Calls Tryd.prog 6 #[.int .i64 k] w fun e w' => e = .returned (.string (nmOf k)) ∧ w' = w := by
  by_cases hk : 1 ≤ k ∧ k ≤ 6
  · have : k = 1 ∨ k = 2 ∨ k = 3 ∨ k = 4 ∨ k = 5 ∨ k = 6 := by omega
    rcases this with rfl | rfl | rfl | rfl | rfl | rfl
    · exact impl1 w (h 1 (by omega))
    · exact impl2 w (h 2 (by omega))
    · exact impl3 w (h 3 (by omega))
    · exact impl4 w (h 4 (by omega))
    · exact impl5 w (h 5 (by omega))
    · exact impl6 w (h 6 (by omega))
  · have e : nmOf k = nm 0 := by unfold nmOf; rw [if_neg hk]
    rw [e]
    exact implNo k hk w
theorem spec_any (k : Int) (w : World) : Calls Tryd.prog 5 #[.int .i64 k] w fun e w' => e = .returned (.string (nmOf k)) ∧ Below w.heap.size w w' := by
  by_cases hk : 1 ≤ k ∧ k ≤ 6
  · have : k = 1 ∨ k = 2 ∨ k = 3 ∨ k = 4 ∨ k = 5 ∨ k = 6 := by omega
    rcases this with rfl | rfl | rfl | rfl | rfl | rfl
    · exact spec1 w
    · exact spec2 w
    · exact spec3 w
    · exact spec4 w
    · exact spec5 w
    · exact spec6 w
  · have e : nmOf k = nm 0 := by unfold nmOf; rw [if_neg hk]
    rw [e]
    exact specNo k hk w
theorem law1 (k : Int) (w : World) (h : Table w) (h0 : 0 < w.heap.size) : Calls Tryd.prog 3 #[.int .i64 k] w fun e w' => e = .returned (.bool true) ∧ Below w.heap.size w w' := by
  go_enter Tryd.func3, Tryd.ntmps3
  go_wp2_with (go_at_call 5; refine (spec_any k w).mono ?_; rintro e w1 ⟨rfl, hb⟩)
  have h1 := impl_any k w1 (h.below h0 hb)
  go_wp2_with (go_at_call 6; refine h1.mono ?_; rintro e w2 ⟨rfl, rfl⟩)
  go_ret
  exact ⟨rfl, hb⟩
end Go.Proofs.YthbdlfmgeebnaaaDoor
