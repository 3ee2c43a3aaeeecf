/- Rows: an argument that is a slice of pairs of whole numbers, opened; functions that are handed lists, called from a row. -/
import Derived.Test.YtogpbandlpjccaaRxM
import Derived.Deep.SlicePairs
import Derived.Carry
set_option linter.unusedSimpArgs false
set_option linter.unusedVariables false
namespace Go.RX
open Go.ChangeShapes Go.WideShapes Go.ChangeAt Go.RowKit
structure Ready (w : World) (as : List Arg) (xs : List Value) (q : Nat → Pl) : Prop where
 lies : Lies q (qaU as) w
 within : Within q (qaU as) w
 vals : ∀ (k : Nat) (β0 : Nat → Pl), (∀ j, j < (qaU as).length → β0 (k + j) = q j) → (qeB k as).map (rl β0) = xs
 inn : ∀ (k : Nat), ∀ x ∈ qeB k as, inn (k + (qaU as).length) x = true
 plain : ∀ (i : Nat) (c : Array Value) (t : TypeId), (qaU as)[i]? = some (c, t) → isN c = true → ∀ v ∈ c.toList, plain v = true
theorem Ready.nil (w : World) : ∃ q, Ready w [] [] q := ⟨fun _ => ⟨none, none, 0, 0, 0⟩, ⟨fun i c t hi => by simp [qaU] at hi, fun i c t hi => by simp [qaU] at hi, fun i rows g z t hi => by simp [qaU] at hi⟩,
 fun i hi => by simp [qaU] at hi, fun _ _ _ => rfl, fun k x hx => by simp [qeB] at hx, fun i c t hi => by simp [qaU] at hi⟩
theorem Ready.v {w : World} {as : List Arg} {xs : List Value} {x : Value} (hx : RX.plain x = true) (h : ∃ q, Ready w as xs q) : ∃ q, Ready w (.v x :: as) (x :: xs) q := by
 obtain ⟨q, h⟩ := h
 refine ⟨q, h.lies, h.within, fun k β0 hb => ?_, fun k y hy => ?_, h.plain⟩
 ·simp only [qeB, List.map_cons, qcA hx]
  rw [h.vals k β0 hb]
 ·simp only [qeB, List.mem_cons] at hy
  rcases hy with rfl | hy
  ·exact qc0 hx
  ·exact h.inn k y hy
theorem Ready.l {w : World} {as : List Arg} {xs : List Value} {p : Pl} {z : Value} {e : TypeId} {rows : List Value} (hp : Lst p z rows false e w) (hlt : ∀ k, p.adr = some k → k < w.heap.size) (h : ∃ q, Ready w as xs q) :
  ∃ q, Ready w (.l z e rows :: as) (.slice p.ha p.hl p.hc :: xs) q := by
 obtain ⟨q, h⟩ := h
 refine ⟨fun j => match j with | 0 => p | j + 1 => q j, h.lies.cons (fun hn => by simp [isN, lstC] at hn) (fun rows2 g2 z2 he => ?_) h.plain, fun i hi k hk => ?_, fun k β0 hb => ?_, fun k y hy => ?_, fun i c t hi hn => ?_⟩
 ·simp only [lstC, Array.mk.injEq, List.cons.injEq, Value.tuple.injEq, Value.bool.injEq, and_true] at he
  obtain ⟨rfl, rfl, rfl⟩ := he
  exact hp
 ·cases i with
  | zero => exact hlt k hk
  | succ i => exact h.within i (by simp only [qaU, List.length_cons] at hi; omega) k hk
 ·simp only [qeB, List.map_cons]
  rw [h.vals (k + 1) β0 fun j hj => by
   have := hb (j + 1) (by simp only [qaU, List.length_cons]; omega)
   rw [show k + 1 + j = k + (j + 1) by omega]
   exact this]
  have h0 := hb 0 (by simp [qaU])
  simp only [Nat.add_zero] at h0
  simp [rl, hdrV, mvS, h0]
 ·simp only [qeB, List.mem_cons] at hy
  rcases hy with rfl | hy
  ·simp [hdrV, RX.inn, qaU]
  ·have := h.inn (k + 1) y hy
   rw [show k + 1 + (qaU as).length = k + (qaU (.l z e rows :: as)).length by simp [qaU]; omega] at this
   exact this
 ·cases i with
  | zero =>
   simp only [qaU, List.getElem?_cons_zero, Option.some.injEq, Prod.mk.injEq] at hi
   rw [← hi.1] at hn
   simp [isN, lstC] at hn
  | succ i => exact h.plain i c t (by simpa [qaU] using hi) hn
theorem qeO.calls {P : Program} {g : FuncId} {as : List Arg} {xs : List Value} {v : Value} (h : qeO P g as v) (hv : RX.plain v = true) {w : World} (hr : ∃ q, Ready w as xs q) :
  Calls P g xs.toArray w fun e w' => e = .returned v ∧ Below w.heap.size w w' := by
 obtain ⟨q, hr⟩ := hr
 have := h.2 q w trivial hr.lies hr.within fun x hx => by have := hr.inn 0 x hx; rwa [Nat.zero_add] at this
 rw [hr.vals 0 q fun j _ => by rw [Nat.zero_add]] at this
 refine this.mono ?_
 rintro e w' ⟨β', rfl, _, hp⟩
 rw [qcA hv]
 exact ⟨rfl, hp.below⟩
def zIv : Value := .agg #[.int .i64 0, .int .i64 0]
theorem cell_block {w : World} {k o : Nat} {v : Value} (h : w.cell? ⟨k, o, none⟩ = some v) : ∃ c t fz, w.heap[k]? = some (.cells c t fz) ∧ c[o]? = some v := by
 unfold World.cell? at h
 split at h
 ·rename_i c t fz hc
  simp at h
  exact ⟨_, _, _, hc, h⟩
 ·simp at h
end Go.RX
