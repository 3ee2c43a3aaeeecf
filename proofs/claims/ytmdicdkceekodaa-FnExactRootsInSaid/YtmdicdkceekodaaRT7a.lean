/- The reference's search for all roots: what its copies leave alone. -/
import Derived.Test.YtmdicdkceekodaaRT6
set_option linter.unusedVariables false
set_option linter.unusedSimpArgs false
namespace Go.Proofs.Ytmdicdkceekodaa.TX
open Go.RowKit Go.Proofs.YtmdicdkceekodaaW.PrintWords Go.Proofs.YtmdicdkceekodaaW.PrintLast Go.RX
structure Old (N : Nat) (g : Nat) (ps : Pl) (vu vv : Value) : Prop where
 g : g < N
 u : ∀ k, vu.ownBlock = some k → k < N
 v : ∀ k, vv.ownBlock = some k → k < N
 s : ∀ k, ps.adr = some k → k < N
theorem Fin.old {T : Nat} {w0 W : World} {g : Nat} {pl ps : Pl} {s : List Value} {vu vv : Value} {u v : List Iv} (h : Fin T w0 W g pl ps s vu vv u v) : Old W.heap.size g ps vu vv := ⟨h.lt, fun k hk => own_lt_ h.u hk, fun k hk => own_lt_ h.v hk, h.sl.low⟩
theorem Fin.grown {T : Nat} {w0 W : World} {g : Nat} {pl ps : Pl} {s : List Value} {vu vv : Value} {u v : List Iv} (h : Fin T w0 W g pl ps s vu vv u v) {N : Nat} (ho : Old N g ps vu vv) {w1 : World} {row : Option Nat} (hb : Below w0.heap.size w0 w1) (hg : W.grownBy w1 row) (hr : ∀ k, row = some k → N ≤ k) :
  Fin T w0 w1 g pl ps s vu vv u v := by
 have key : ∀ k, k < N → some k ≠ row := fun k hk e => by have := hr k e.symm; omega
 refine ⟨(hg.block g h.lt (key g ho.g)).trans h.blk, ?_, ?_, h.uv, hb, Lst.mono h.sl fun k hk => hg.block k (h.sl.low k hk) (key k (ho.s k hk)), h.sk⟩
 ·exact Kd.R_mono (Kd.R_grown (show kIv.R 35 W w0.heap.size (fun k => vu.ownBlock = some k) vu u from ⟨fun k hk => hk, h.u.2⟩) hg fun k hk => key k (ho.u k hk)) fun _ _ => trivial
 ·exact Kd.R_mono (Kd.R_grown (show kIv.R 35 W w0.heap.size (fun k => vv.ownBlock = some k) vv v from ⟨fun k hk => hk, h.v.2⟩) hg fun k hk => key k (ho.v k hk)) fun _ _ => trivial
theorem row_grown {W : World} {b : Nat} {x : Value} {xs : List Iv} (h : kIv.R 35 W b (fun _ => True) x xs) {w1 : World} {row : Option Nat} (hg : W.grownBy w1 row) (hr : ∀ k, x.ownBlock = some k → row ≠ some k) : kIv.R 35 w1 b (fun _ => True) x xs :=
 Kd.R_mono (Kd.R_grown (show kIv.R 35 W b (fun k => x.ownBlock = some k) x xs from ⟨fun k hk => hk, h.2⟩) hg fun k hk e => hr k hk e.symm) fun _ _ => trivial
theorem kIv_KM {w : World} {base : Nat} {x : Iv} {cs : List Value} (h : kIv.K w x cs) : kIv.M w base (fun _ => False) x cs := by
 obtain ⟨c0, c1, h1, h2, h3⟩ := h
 exact ⟨c0, c1, h1, h2, h3⟩
end Go.Proofs.Ytmdicdkceekodaa.TX
