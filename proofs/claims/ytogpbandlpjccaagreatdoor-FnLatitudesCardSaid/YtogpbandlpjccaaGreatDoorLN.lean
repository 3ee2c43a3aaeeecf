/- The names of the latitudes: what the table holds, by the machine. -/
import Derived.Test.YtogpbandlpjccaaGreatDoorProg
import Derived.WalkKit
namespace Go.Proofs.YtogpbandlpjccaaGreatDoor
open Go.RowKit
def lnm : Nat → ByteArray
 | 1 => { data := #[114, 101, 100, 117, 99, 101, 100] }
 | 2 => { data := #[103, 101, 111, 99, 101, 110, 116, 114, 105, 99] }
 | 3 => { data := #[99, 111, 110, 102, 111, 114, 109, 97, 108] }
 | 4 => { data := #[97, 117, 116, 104, 97, 108, 105, 99] }
 | 5 => { data := #[114, 101, 99, 116, 105, 102, 121, 105, 110, 103] }
 | 6 => { data := #[105, 115, 111, 109, 101, 116, 114, 105, 99] }
 | _ => { data := #[] }
def Table (w : World) : Prop := ∀ i, i < 7 → w.cell? ⟨0, i, none⟩ = some (.string (lnm i))
theorem Table.pos {w : World} (h : Table w) : 0 < w.heap.size := by
 have h0 := h 0 (by omega)
 unfold World.cell? at h0
 split at h0
 ·rename_i hc
  exact (Array.getElem?_eq_some_iff.1 hc).1
 ·simp at h0
theorem Table.below {w w' : World} (h : Table w) (hb : Below w.heap.size w w') : Table w' := fun i hi => by rw [hb.cell (show (⟨0, i, none⟩ : Addr).block < w.heap.size from h.pos)]; exact h i hi
theorem name1 (w : World) (hc : w.cell? ⟨0, 1, none⟩ = some (.string (lnm 1))) : Calls Tryz.prog 15 #[.int .i64 1] w fun e w' => e = .returned (.string (lnm 1)) ∧ w' = w := by
 go_enter Tryz.func15, Tryz.ntmps15
 go_wp2
 go_ret
 exact ⟨rfl, rfl⟩
theorem name2 (w : World) (hc : w.cell? ⟨0, 2, none⟩ = some (.string (lnm 2))) : Calls Tryz.prog 15 #[.int .i64 2] w fun e w' => e = .returned (.string (lnm 2)) ∧ w' = w := by
 go_enter Tryz.func15, Tryz.ntmps15
 go_wp2
 go_ret
 exact ⟨rfl, rfl⟩
theorem name3 (w : World) (hc : w.cell? ⟨0, 3, none⟩ = some (.string (lnm 3))) : Calls Tryz.prog 15 #[.int .i64 3] w fun e w' => e = .returned (.string (lnm 3)) ∧ w' = w := by
 go_enter Tryz.func15, Tryz.ntmps15
 go_wp2
 go_ret
 exact ⟨rfl, rfl⟩
theorem name4 (w : World) (hc : w.cell? ⟨0, 4, none⟩ = some (.string (lnm 4))) : Calls Tryz.prog 15 #[.int .i64 4] w fun e w' => e = .returned (.string (lnm 4)) ∧ w' = w := by
 go_enter Tryz.func15, Tryz.ntmps15
 go_wp2
 go_ret
 exact ⟨rfl, rfl⟩
theorem name5 (w : World) (hc : w.cell? ⟨0, 5, none⟩ = some (.string (lnm 5))) : Calls Tryz.prog 15 #[.int .i64 5] w fun e w' => e = .returned (.string (lnm 5)) ∧ w' = w := by
 go_enter Tryz.func15, Tryz.ntmps15
 go_wp2
 go_ret
 exact ⟨rfl, rfl⟩
theorem name6 (w : World) (hc : w.cell? ⟨0, 6, none⟩ = some (.string (lnm 6))) : Calls Tryz.prog 15 #[.int .i64 6] w fun e w' => e = .returned (.string (lnm 6)) ∧ w' = w := by
 go_enter Tryz.func15, Tryz.ntmps15
 go_wp2
 go_ret
 exact ⟨rfl, rfl⟩
theorem named1 (w : World) (h : Table w) : Calls Tryz.prog 14 #[.string (lnm 1)] w fun e w' => e = .returned (.int .i64 1) ∧ w' = w := by
 have c0 := h 0 (by omega)
 have c1 := h 1 (by omega)
 have c2 := h 2 (by omega)
 have c3 := h 3 (by omega)
 have c4 := h 4 (by omega)
 have c5 := h 5 (by omega)
 have c6 := h 6 (by omega)
 simp only [lnm] at c0 c1 c2 c3 c4 c5 c6
 have h0 : ((lnm 1).toList == ([] : List UInt8)) = false := by decide +kernel
 have h1 : ((lnm 1).toList == ([114, 101, 100, 117, 99, 101, 100] : List UInt8)) = true := by decide +kernel
 go_enter Tryz.func14, Tryz.ntmps14
 go_wp2
 refine wp_loop_rounds 2 ?_
 rw [rounds_succ]
 go_wp2
 rw [rounds_succ]
 go_wp2
 go_ret
 exact ⟨rfl, rfl⟩
theorem named2 (w : World) (h : Table w) : Calls Tryz.prog 14 #[.string (lnm 2)] w fun e w' => e = .returned (.int .i64 2) ∧ w' = w := by
 have c0 := h 0 (by omega)
 have c1 := h 1 (by omega)
 have c2 := h 2 (by omega)
 have c3 := h 3 (by omega)
 have c4 := h 4 (by omega)
 have c5 := h 5 (by omega)
 have c6 := h 6 (by omega)
 simp only [lnm] at c0 c1 c2 c3 c4 c5 c6
 have h0 : ((lnm 2).toList == ([] : List UInt8)) = false := by decide +kernel
 have h1 : ((lnm 2).toList == ([114, 101, 100, 117, 99, 101, 100] : List UInt8)) = false := by decide +kernel
 have h2 : ((lnm 2).toList == ([103, 101, 111, 99, 101, 110, 116, 114, 105, 99] : List UInt8)) = true := by decide +kernel
 go_enter Tryz.func14, Tryz.ntmps14
 go_wp2
 refine wp_loop_rounds 3 ?_
 rw [rounds_succ]
 go_wp2
 rw [rounds_succ]
 go_wp2
 rw [rounds_succ]
 go_wp2
 go_ret
 exact ⟨rfl, rfl⟩
theorem named3 (w : World) (h : Table w) : Calls Tryz.prog 14 #[.string (lnm 3)] w fun e w' => e = .returned (.int .i64 3) ∧ w' = w := by
 have c0 := h 0 (by omega)
 have c1 := h 1 (by omega)
 have c2 := h 2 (by omega)
 have c3 := h 3 (by omega)
 have c4 := h 4 (by omega)
 have c5 := h 5 (by omega)
 have c6 := h 6 (by omega)
 simp only [lnm] at c0 c1 c2 c3 c4 c5 c6
 have h0 : ((lnm 3).toList == ([] : List UInt8)) = false := by decide +kernel
 have h1 : ((lnm 3).toList == ([114, 101, 100, 117, 99, 101, 100] : List UInt8)) = false := by decide +kernel
 have h2 : ((lnm 3).toList == ([103, 101, 111, 99, 101, 110, 116, 114, 105, 99] : List UInt8)) = false := by decide +kernel
 have h3 : ((lnm 3).toList == ([99, 111, 110, 102, 111, 114, 109, 97, 108] : List UInt8)) = true := by decide +kernel
 go_enter Tryz.func14, Tryz.ntmps14
 go_wp2
 refine wp_loop_rounds 4 ?_
 rw [rounds_succ]
 go_wp2
 rw [rounds_succ]
 go_wp2
 rw [rounds_succ]
 go_wp2
 rw [rounds_succ]
 go_wp2
 go_ret
 exact ⟨rfl, rfl⟩
theorem named4 (w : World) (h : Table w) : Calls Tryz.prog 14 #[.string (lnm 4)] w fun e w' => e = .returned (.int .i64 4) ∧ w' = w := by
 have c0 := h 0 (by omega)
 have c1 := h 1 (by omega)
 have c2 := h 2 (by omega)
 have c3 := h 3 (by omega)
 have c4 := h 4 (by omega)
 have c5 := h 5 (by omega)
 have c6 := h 6 (by omega)
 simp only [lnm] at c0 c1 c2 c3 c4 c5 c6
 have h0 : ((lnm 4).toList == ([] : List UInt8)) = false := by decide +kernel
 have h1 : ((lnm 4).toList == ([114, 101, 100, 117, 99, 101, 100] : List UInt8)) = false := by decide +kernel
 have h2 : ((lnm 4).toList == ([103, 101, 111, 99, 101, 110, 116, 114, 105, 99] : List UInt8)) = false := by decide +kernel
 have h3 : ((lnm 4).toList == ([99, 111, 110, 102, 111, 114, 109, 97, 108] : List UInt8)) = false := by decide +kernel
 have h4 : ((lnm 4).toList == ([97, 117, 116, 104, 97, 108, 105, 99] : List UInt8)) = true := by decide +kernel
 go_enter Tryz.func14, Tryz.ntmps14
 go_wp2
 refine wp_loop_rounds 5 ?_
 rw [rounds_succ]
 go_wp2
 rw [rounds_succ]
 go_wp2
 rw [rounds_succ]
 go_wp2
 rw [rounds_succ]
 go_wp2
 rw [rounds_succ]
 go_wp2
 go_ret
 exact ⟨rfl, rfl⟩
theorem named5 (w : World) (h : Table w) : Calls Tryz.prog 14 #[.string (lnm 5)] w fun e w' => e = .returned (.int .i64 5) ∧ w' = w := by
 have c0 := h 0 (by omega)
 have c1 := h 1 (by omega)
 have c2 := h 2 (by omega)
 have c3 := h 3 (by omega)
 have c4 := h 4 (by omega)
 have c5 := h 5 (by omega)
 have c6 := h 6 (by omega)
 simp only [lnm] at c0 c1 c2 c3 c4 c5 c6
 have h0 : ((lnm 5).toList == ([] : List UInt8)) = false := by decide +kernel
 have h1 : ((lnm 5).toList == ([114, 101, 100, 117, 99, 101, 100] : List UInt8)) = false := by decide +kernel
 have h2 : ((lnm 5).toList == ([103, 101, 111, 99, 101, 110, 116, 114, 105, 99] : List UInt8)) = false := by decide +kernel
 have h3 : ((lnm 5).toList == ([99, 111, 110, 102, 111, 114, 109, 97, 108] : List UInt8)) = false := by decide +kernel
 have h4 : ((lnm 5).toList == ([97, 117, 116, 104, 97, 108, 105, 99] : List UInt8)) = false := by decide +kernel
 have h5 : ((lnm 5).toList == ([114, 101, 99, 116, 105, 102, 121, 105, 110, 103] : List UInt8)) = true := by decide +kernel
 go_enter Tryz.func14, Tryz.ntmps14
 go_wp2
 refine wp_loop_rounds 6 ?_
 rw [rounds_succ]
 go_wp2
 rw [rounds_succ]
 go_wp2
 rw [rounds_succ]
 go_wp2
 rw [rounds_succ]
 go_wp2
 rw [rounds_succ]
 go_wp2
 rw [rounds_succ]
 go_wp2
 go_ret
 exact ⟨rfl, rfl⟩
theorem named6 (w : World) (h : Table w) : Calls Tryz.prog 14 #[.string (lnm 6)] w fun e w' => e = .returned (.int .i64 6) ∧ w' = w := by
 have c0 := h 0 (by omega)
 have c1 := h 1 (by omega)
 have c2 := h 2 (by omega)
 have c3 := h 3 (by omega)
 have c4 := h 4 (by omega)
 have c5 := h 5 (by omega)
 have c6 := h 6 (by omega)
 simp only [lnm] at c0 c1 c2 c3 c4 c5 c6
 have h0 : ((lnm 6).toList == ([] : List UInt8)) = false := by decide +kernel
 have h1 : ((lnm 6).toList == ([114, 101, 100, 117, 99, 101, 100] : List UInt8)) = false := by decide +kernel
 have h2 : ((lnm 6).toList == ([103, 101, 111, 99, 101, 110, 116, 114, 105, 99] : List UInt8)) = false := by decide +kernel
 have h3 : ((lnm 6).toList == ([99, 111, 110, 102, 111, 114, 109, 97, 108] : List UInt8)) = false := by decide +kernel
 have h4 : ((lnm 6).toList == ([97, 117, 116, 104, 97, 108, 105, 99] : List UInt8)) = false := by decide +kernel
 have h5 : ((lnm 6).toList == ([114, 101, 99, 116, 105, 102, 121, 105, 110, 103] : List UInt8)) = false := by decide +kernel
 have h6 : ((lnm 6).toList == ([105, 115, 111, 109, 101, 116, 114, 105, 99] : List UInt8)) = true := by decide +kernel
 go_enter Tryz.func14, Tryz.ntmps14
 go_wp2
 refine wp_loop_rounds 7 ?_
 rw [rounds_succ]
 go_wp2
 rw [rounds_succ]
 go_wp2
 rw [rounds_succ]
 go_wp2
 rw [rounds_succ]
 go_wp2
 rw [rounds_succ]
 go_wp2
 rw [rounds_succ]
 go_wp2
 rw [rounds_succ]
 go_wp2
 go_ret
 exact ⟨rfl, rfl⟩
end Go.Proofs.YtogpbandlpjccaaGreatDoor
