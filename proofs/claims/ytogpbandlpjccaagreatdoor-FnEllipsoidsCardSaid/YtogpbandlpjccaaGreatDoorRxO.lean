/- Rows: an argument that is a slice of pairs of whole numbers, opened; functions that are handed lists, called from a row. -/
import Derived.Test.YtogpbandlpjccaaGreatDoorRxM
import Derived.Deep.SlicePairs
import Derived.Carry
set_option linter.unusedSimpArgs false
set_option linter.unusedVariables false
namespace Go.RX
open Go.ChangeShapes Go.WideShapes Go.ChangeAt Go.RowKit
structure Ready (w : World) (as : List Arg) (xs : List Value) (q : Nat → Pl) : Prop where
 lies : Lies q (argBlocks as) w
 within : Within q (argBlocks as) w
 vals : ∀ (k : Nat) (β0 : Nat → Pl), (∀ j, j < (argBlocks as).length → β0 (k + j) = q j) → (argVals k as).map (rl β0) = xs
 inn : ∀ (k : Nat), ∀ x ∈ argVals k as, inn (k + (argBlocks as).length) x = true
 plain : ∀ (i : Nat) (c : Array Value) (t : TypeId), (argBlocks as)[i]? = some (c, t) → isN c = true → ∀ v ∈ c.toList, plain v = true
theorem Ready.nil (w : World) : ∃ q, Ready w [] [] q := ⟨fun _ => ⟨none, none, 0, 0, 0⟩, ⟨fun i c t hi => by simp [argBlocks] at hi, fun i c t hi => by simp [argBlocks] at hi, fun i rows g z t hi => by simp [argBlocks] at hi⟩,
 fun i hi => by simp [argBlocks] at hi, fun _ _ _ => rfl, fun k x hx => by simp [argVals] at hx, fun i c t hi => by simp [argBlocks] at hi⟩
theorem Ready.l {w : World} {as : List Arg} {xs : List Value} {p : Pl} {z : Value} {e : TypeId} {rows : List Value} (hp : Lst p z rows false e w) (hlt : ∀ k, p.adr = some k → k < w.heap.size) (h : ∃ q, Ready w as xs q) :
  ∃ q, Ready w (.l z e rows :: as) (.slice p.ha p.hl p.hc :: xs) q := by
 obtain ⟨q, h⟩ := h
 refine ⟨fun j => match j with | 0 => p | j + 1 => q j, h.lies.cons (fun hn => by simp [isN, lstC] at hn) (fun rows2 g2 z2 he => ?_) h.plain, fun i hi k hk => ?_, fun k β0 hb => ?_, fun k y hy => ?_, fun i c t hi hn => ?_⟩
 ·simp only [lstC, Array.mk.injEq, List.cons.injEq, Value.tuple.injEq, Value.bool.injEq, and_true] at he
  obtain ⟨rfl, rfl, rfl⟩ := he
  exact hp
 ·cases i with
  | zero => exact hlt k hk
  | succ i => exact h.within i (by simp only [argBlocks, List.length_cons] at hi; omega) k hk
 ·simp only [argVals, List.map_cons]
  rw [h.vals (k + 1) β0 fun j hj => by
   have := hb (j + 1) (by simp only [argBlocks, List.length_cons]; omega)
   rw [show k + 1 + j = k + (j + 1) by omega]
   exact this]
  have h0 := hb 0 (by simp [argBlocks])
  simp only [Nat.add_zero] at h0
  simp [rl, hdrV, mvS, h0]
 ·simp only [argVals, List.mem_cons] at hy
  rcases hy with rfl | hy
  ·simp [hdrV, RX.inn, argBlocks]
  ·have := h.inn (k + 1) y hy
   rw [show k + 1 + (argBlocks as).length = k + (argBlocks (.l z e rows :: as)).length by simp [argBlocks]; omega] at this
   exact this
 ·cases i with
  | zero =>
   simp only [argBlocks, List.getElem?_cons_zero, Option.some.injEq, Prod.mk.injEq] at hi
   rw [← hi.1] at hn
   simp [isN, lstC] at hn
  | succ i => exact h.plain i c t (by simpa [argBlocks] using hi) hn
theorem cell_block {w : World} {k o : Nat} {v : Value} (h : w.cell? ⟨k, o, none⟩ = some v) : ∃ c t fz, w.heap[k]? = some (.cells c t fz) ∧ c[o]? = some v := by
 unfold World.cell? at h
 split at h
 ·rename_i c t fz hc
  simp at h
  exact ⟨_, _, _, hc, h⟩
 ·simp at h
end Go.RX
/- A callee that is walked in place in memory of its own: what it is told does not hang on the caller's new blocks. -/
set_option linter.unusedSimpArgs false
set_option linter.unusedVariables false
/- Contracts that ask something of the world, for functions that take lists. -/
set_option linter.unusedSimpArgs false
set_option linter.unusedVariables false
namespace Go.RX
open Go.RowKit
def up {P : Program} {T : Prem} (e : Entry P) : EntryU P T where
 g := e.g
 f := e.f
 free := e.free
 mono := e.mono
 ok W _ := e.ok W trivial
def GivesAU (P : Program) (T : Prem) (g : FuncId) (as : List Arg) (v : Value) : Prop := GivesU P T g (argVals 0 as) (argBlocks as) v (argBlocks as)
theorem givesAU_L {P : Program} (hm : P.follows .mixedOrders = true) {T : Prem} (es : List (EntryU P T)) {g : FuncId} {fn : Func} (N : Nat) (ls : Option (List Nat)) (Λ : Lam) {as : List Arg} {v : Value}
  (hf : P.funcs[g]? = some fn) (hname : (fn.name == "runtime.NumGoroutine") = false) (hL : ∀ c, fn.body = some c → LamOk P (tab es) (argBlocks as).length fn.ntmps N ls Λ (loopsOf c))
  (h : run1 P (tab es) N ls Λ fn (argVals 0 as) (argBlocks as) = some (v, argBlocks as)) : GivesAU P T g as v := gives hm (fun _ => tab_ok es) hf hname hL h
theorem GivesAU.calls {P : Program} {T : Prem} {g : FuncId} {as : List Arg} {xs : List Value} {v : Value} (h : GivesAU P T g as v) (hv : RX.plain v = true) {w : World} (hT : T.T w) (hr : ∃ q, Ready w as xs q) :
  Calls P g xs.toArray w fun e w' => e = .returned v ∧ Below w.heap.size w w' := by
 obtain ⟨q, hr⟩ := hr
 have := h.2 q w hT hr.lies hr.within fun x hx => by have := hr.inn 0 x hx; rwa [Nat.zero_add] at this
 rw [hr.vals 0 q fun j _ => by rw [Nat.zero_add]] at this
 refine this.mono ?_
 rintro e w' ⟨β', rfl, _, hp⟩
 rw [rl_plain hv]
 exact ⟨rfl, hp.below⟩
theorem givesVU_of {P : Program} {T : Prem} {g : FuncId} {args : List Value} {v : Value} (hen : ∀ xs w, (callFunc g xs).run P w = .ok (.enter g xs) w) (ha : args.all plain = true) (hv : plain v = true)
  (h : ∀ w, T.T w → Calls P g args.toArray w fun e w' => e = .returned v ∧ Below w.heap.size w w') : GivesVU P T g args v := by
 intro σ
 simp only [List.all_eq_true] at ha
 refine ⟨hen, fun β w hTw hl hwi _ => ?_⟩
 have e : args.map (rl β) = args := by
  conv => rhs; rw [← List.map_id args]
  exact List.map_congr_left fun x hx => rl_plain (ha x hx)
 rw [e]
 refine (h w hTw).mono ?_
 rintro en w' ⟨rfl, hb⟩
 exact ⟨β, by rw [rl_plain hv], plain_inn hv, (Hp.start hl hwi).past hb⟩
end Go.RX
