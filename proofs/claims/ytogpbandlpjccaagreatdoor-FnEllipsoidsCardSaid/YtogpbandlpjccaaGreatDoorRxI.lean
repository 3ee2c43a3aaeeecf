/- Lists of values: their length, their elements, a new element behind the last one. -/
import Derived.Test.YtogpbandlpjccaaGreatDoorRxB
import Derived.Deep.AppendLies
import Derived.Laws.MakeOwn
import Derived.Laws.Slices
import Derived.Laws.BytesArg
import Derived.Laws.Concat
import Derived.Deep.Upon
set_option linter.unusedSimpArgs false
set_option linter.unusedVariables false
namespace Go.RX
open Go.RowKit
theorem add_at (b o n : Nat) : (⟨b, o, none⟩ : Addr).add n = ⟨b, o + n, none⟩ := by
 unfold Addr.add
 split
 ·rename_i h; subst h; rfl
 ·rfl
theorem flat_get {n : Nat} : ∀ (l : List Value), (∀ r ∈ l, r.cells.size = n) → ∀ (i j : Nat) (r : Value), l[i]? = some r → j < n → (flat l)[i * n + j]? = r.cells.toList[j]? := by
 intro l
 induction l with
 | nil => intro _ i j r hi; simp at hi
 | cons x l ih =>
  intro h i j r hi hj
  have hx := h x (by simp)
  simp only [flat, List.flatMap_cons]
  cases i with
  | zero =>
   simp only [List.getElem?_cons_zero, Option.some.injEq] at hi
   subst hi
   rw [Nat.zero_mul, Nat.zero_add, List.getElem?_append_left (by simpa [hx] using hj)]
  | succ i =>
   simp only [List.getElem?_cons_succ] at hi
   rw [List.getElem?_append_right (by simp only [Array.length_toList, hx, Nat.succ_mul]; omega)]
   have := ih (fun y hy => h y (by simp [hy])) i j r hi hj
   simp only [Array.length_toList, hx, Nat.succ_mul]
   rw [show i * n + n + j - n = i * n + j by omega]
   exact this
def nthR (rows : List Value) (g : Bool) (i : Nat) : Value := match g with | true => rows.getD (rows.length - 1 - i) undef | false => rows.getD i undef
theorem nthR_get {rows : List Value} {g : Bool} {i : Nat} (h : i < rows.length) : (inOrder rows g)[i]? = some (nthR rows g i) := by
 cases g with
 | false => simp [inOrder, nthR, List.getD, h]
 | true =>
  have h2 : rows.length - 1 - i < rows.length := by omega
  simp only [inOrder, nthR, List.getD]
  rw [List.getElem?_reverse h]
  simp [h2]
theorem inOrder_len {rows : List Value} {g : Bool} : (inOrder rows g).length = rows.length := by cases g <;> simp [inOrder]
def aggV : Value → Bool | .agg _ => true | _ => false
def hdrV (b : Nat) : Value := .slice (some ⟨b, 0, some 0⟩) 0 0
def isHdr : Value → Bool | .slice (some ⟨_, _, some _⟩) _ _ => true | _ => false
def loadS {R : Type} (P : Program) (t : TypeId) (p : Value) (σ : LH) (K : Value → Option R) : Option R :=
 match p with
 | .pointer (some ⟨b, i, some _⟩) => match σ[b]? with
  | some (⟨[.tuple ⟨rows⟩, .bool g, z]⟩, _) => match pv P (isAgg t), pv P (sizeOf t) with
   | some ag, some n => match decide (ag = aggV z) && Nat.beq n z.cells.size with
    | true => bif decide (i < rows.length) then K (rowAs z (nthR rows g i)) else none
    | false => none
   | _, _ => none
  | _ => none
 | _ => none
theorem rowAs_plain (z r : Value) : plain (rowAs z r) = true := by unfold rowAs; split <;> rfl
theorem Lst.cell {p : Pl} {z : Value} {l : List Value} {g : Bool} {t : TypeId} {w : World} (h : Lst p z l g t w) {i j : Nat} {r x : Value} (hi : l[i]? = some r) (hj : r.cells.toList[j]? = some x) :
  w.cell? ⟨p.blk, p.off i + j, none⟩ = some x := by
 have hmem : r ∈ l := List.mem_of_getElem? hi
 have hil := (List.getElem?_eq_some_iff.1 hi).1
 have hjl : j < p.sz := by have := (List.getElem?_eq_some_iff.1 hj).1; rw [Array.length_toList, (h.row r hmem).2.1] at this; exact this
 rcases h.lay with ⟨_, h2, _⟩ | ⟨k, o, c, t', fz, h1, h2, h3, h4⟩
 ·subst h2; simp at hi
 ·have hf := flat_get l (fun r hr => (h.row r hr).2.1) i j r hi hjl
  rw [← h4, hj] at hf
  have hlt : i * p.sz + j < l.length * p.sz := by
   have : (i + 1) * p.sz ≤ l.length * p.sz := Nat.mul_le_mul_right _ hil
   rw [Nat.succ_mul] at this; omega
  rw [List.getElem?_take_of_lt hlt, List.getElem?_drop] at hf
  simp only [World.cell?, Pl.blk, Pl.off, h1, h2, Option.getD_some, h3, Option.isSome_none, Bool.false_eq_true, if_false]
  rw [← Array.getElem?_toList, ← hf, Nat.add_assoc]
theorem loadS_run {R : Type} {P : Program} {β : Nat → Pl} {σ : LH} {w : World} (h : Lies β σ w) {t : TypeId} {p : Value} {K : Value → Option R} {r : R} (hl : loadS P t p σ K = some r) :
  ∃ v, K v = some r ∧ plain v = true ∧ (Instr.loadAt t (rl β p)).run P w = .ok v w := by
 unfold loadS at hl
 split at hl
 case h_2 => simp at hl
 rename_i b i sp
 split at hl
 case h_2 => simp at hl
 rename_i rows g z e hσ
 split at hl
 case h_2 => simp at hl
 rename_i ag n hag hsz
 split at hl
 case h_2 => simp at hl
 rename_i hc
 simp only [Bool.and_eq_true] at hc
 have hag' : ag = aggV z := of_decide_eq_true hc.1
 have hn := Nat.eq_of_beq_eq_true hc.2
 cases hd : decide (i < rows.length) with
 | false => rw [hd] at hl; simp at hl
 | true =>
 rw [hd] at hl
 simp only [cond_true] at hl
 have hi := of_decide_eq_true hd
 have L := h.lst b rows g z e hσ
 have hget := nthR_get (g := g) hi
 have hmem : nthR rows g i ∈ inOrder rows g := List.mem_of_getElem? hget
 obtain ⟨hr, hrs, _⟩ := L.row _ hmem
 refine ⟨_, hl, rowAs_plain z _, ?_⟩
 have hrl : rl β (.pointer (some ⟨b, i, some sp⟩)) = .pointer (some ⟨(β b).blk, (β b).off i, none⟩) := rfl
 have hsure : ∀ w : World, (Instr.sureAddr (.pointer (some ⟨(β b).blk, (β b).off i, none⟩))).run P w = .ok ⟨(β b).blk, (β b).off i, none⟩ w := fun _ => rfl
 rw [hrl]
 rw [← hr]
 cases z with
 | agg zs =>
  have hrow : nthR rows g i = .agg (nthR rows g i).cells := by
   rw [hr]; simp [rowAs, Value.cells]
  have hcells : (loadCells ⟨(β b).blk, (β b).off i, none⟩ n).run P w = .ok (nthR rows g i).cells w := by
   have := run_loadCells_list (P := P) w ⟨(β b).blk, (β b).off i, none⟩ (nthR rows g i).cells.toList (fun j v hj => by
    rw [add_at]
    exact L.cell hget hj)
   rw [Array.length_toList, hrs, ← L.szz, ← hn] at this
   simpa using this
  have hagt : pv P (isAgg t) = some true := by rw [hag, hag']; rfl
  simp only [Instr.loadAt, Sem.run_bind, hsure, Result.andThen_ok, loadVar, pv_run _ hagt w, pv_run _ hsz w, if_true, hcells, Sem.run_pure]
  rw [← hrow]
 | _ =>
  have hagt : pv P (isAgg t) = some false := by rw [hag, hag']; rfl
  have hrow : (nthR rows g i).cells = #[nthR rows g i] := by
   rw [hr]; simp [rowAs, Value.cells, undef]
  have hcell := L.cell (j := 0) (x := nthR rows g i) hget (by rw [hrow]; rfl)
  simp only [Nat.add_zero] at hcell
  simp only [Instr.loadAt, Sem.run_bind, hsure, Result.andThen_ok, loadVar, pv_run _ hagt w, Bool.false_eq_true, if_false, run_load, hcell]
def indexS {R : Type} (P : Program) (t : TypeId) (p i : Value) (σ : LH) (K : Value → Option R) : Option R :=
 match p, i with
 | .slice (some ⟨b, of, some _⟩) _ _, .int _ j => match σ[b]? with
  | some (⟨[.tuple ⟨rows⟩, .bool g, z]⟩, _) => match pv P (underlying t) with
   | some (.slice elem) => match pv P (sizeOf elem) with
    | some n => match Nat.beq n z.cells.size with
     | true => bif decide (0 ≤ j ∧ j < ((rows.length - of : Nat) : Int)) then K (.pointer (some ⟨b, j.toNat + of, some 0⟩)) else none
     | false => none
    | none => none
   | _ => none
  | _ => none
 | _, _ => none
theorem indexS_run {R : Type} {P : Program} {β : Nat → Pl} {σ : LH} {w : World} (h : Lies β σ w) {t : TypeId} {p i : Value} {K : Value → Option R} {r : R} (hl : indexS P t p i σ K = some r) :
  ∃ v, K v = some r ∧ inn σ.length v = true ∧ (Instr.indexAt t (rl β p) (rl β i)).run P w = .ok (rl β v) w := by
 unfold indexS at hl
 split at hl
 case h_2 => simp at hl
 rename_i b ofs sp len cap k j
 split at hl
 case h_2 => simp at hl
 rename_i rows g z e hσ
 split at hl
 case h_2 => simp at hl
 rename_i elem hu
 split at hl
 case h_2 => simp at hl
 rename_i n hsz
 split at hl
 case h_2 => simp at hl
 rename_i hn
 have hn := Nat.eq_of_beq_eq_true hn
 cases hd : decide (0 ≤ j ∧ j < ((rows.length - ofs : Nat) : Int)) with
 | false => rw [hd] at hl; simp at hl
 | true =>
 rw [hd] at hl
 simp only [cond_true] at hl
 have hj := of_decide_eq_true hd
 have L := h.lst b rows g z e hσ
 have hlen := L.len
 rw [inOrder_len] at hlen
 have hblt : b < σ.length := (List.getElem?_eq_some_iff.1 hσ).1
 refine ⟨_, hl, by simpa [inn] using hblt, ?_⟩
 rcases L.lay with ⟨_, h2, _⟩ | ⟨k', o, c, t', fz, h1, h2, h3, h4⟩
 ·have := congrArg List.length h2
  rw [inOrder_len] at this
  simp only [List.length_nil] at this
  omega
 ·have hsh : shA (β b) ofs = some ⟨k', o + ofs * n, none⟩ := by
   cases ofs with
   | zero => simp [h1]
   | succ m => simp only [shA, h1, Option.map_some, ← L.szz, hn, add_at]
  have hrl : rl β (.slice (some ⟨b, ofs, some sp⟩) len cap) = .slice (some ⟨k', o + ofs * n, none⟩) (rows.length - ofs) ((β b).hc - ofs) := by
   simp [rl, mvS, hsh, hlen]
  have hrp : rl β (.pointer (some ⟨b, j.toNat + ofs, some 0⟩)) = .pointer (some ((⟨k', o + ofs * n, none⟩ : Addr).add (j.toNat * n))) := by
   rw [add_at]
   simp only [rl, mv, Pl.blk, Pl.off, h1, h2, ← L.szz, hn, Option.getD_some]
   rw [Nat.add_mul, Nat.add_assoc, Nat.add_comm (j.toNat * _)]
  rw [hrl, hrp]
  simp [rl, Instr.indexAt, asIntOf, Sem.run_bind, pv_run _ hu w, hj, pv_run _ hsz w]
def sliceS {R : Type} (P : Program) (t : TypeId) (p lo : Value) (σ : LH) (K : Value → Option R) : Option R :=
 match p, lo with
 | .slice (some ⟨b, 0, some _⟩) _ _, .int _ j => match σ[b]? with
  | some (⟨[.tuple ⟨rows⟩, .bool g, z]⟩, _) => match pv P (underlying t) with
   | some (.slice elem) => match pv P (sizeOf elem) with
    | some n => match Nat.beq n z.cells.size with
     | true => bif decide (0 ≤ j ∧ j < (rows.length : Int)) then K (.slice (some ⟨b, j.toNat, some 0⟩) 0 0) else none
     | false => none
    | none => none
   | _ => none
  | _ => none
 | _, _ => none
theorem sliceS_run {R : Type} {P : Program} {β : Nat → Pl} {σ : LH} {w : World} (h : Lies β σ w) {t : TypeId} {p i : Value} {K : Value → Option R} {r : R} (hl : sliceS P t p i σ K = some r) :
  ∃ v, K v = some r ∧ inn σ.length v = true ∧ (Instr.sliceAt t (rl β p) (some (rl β i)) none none).run P w = .ok (rl β v) w := by
 unfold sliceS at hl
 split at hl
 case h_2 => simp at hl
 rename_i b sp len cap k j
 split at hl
 case h_2 => simp at hl
 rename_i rows g z e hσ
 split at hl
 case h_2 => simp at hl
 rename_i elem hu
 split at hl
 case h_2 => simp at hl
 rename_i n hsz
 split at hl
 case h_2 => simp at hl
 rename_i hn
 have hn := Nat.eq_of_beq_eq_true hn
 cases hd : decide (0 ≤ j ∧ j < (rows.length : Int)) with
 | false => rw [hd] at hl; simp at hl
 | true =>
 rw [hd] at hl
 simp only [cond_true] at hl
 have hj := of_decide_eq_true hd
 have L := h.lst b rows g z e hσ
 have hlen := L.len
 rw [inOrder_len] at hlen
 have hblt : b < σ.length := (List.getElem?_eq_some_iff.1 hσ).1
 refine ⟨_, hl, by simpa [inn] using hblt, ?_⟩
 have hlc := L.lc
 have hrl : rl β (.slice (some ⟨b, 0, some sp⟩) len cap) = .slice (β b).ha rows.length (β b).hc := by simp [rl, mvS, hlen]
 have hrv : rl β (.slice (some ⟨b, j.toNat, some 0⟩) 0 0) = .slice ((β b).ha.map (·.add (j.toNat * n))) (rows.length - j.toNat) ((β b).hc - j.toNat) := by
  simp only [rl, mvS, hlen, ← hn, L.szz]
  congr 1
  cases hjn : j.toNat with
  | zero => cases hh : (β b).ha with | none => simp [hh] | some a => simp [hh, Addr.add]
  | succ m => simp only [shA, ← L.szz, hn]
 rw [hrl, hrv]
 have hul := pv_underlying hu
 have hel : P.elem t = elem := by simp [Program.elem, hul]
 have hne : ¬ ((β b).hc = j.toNat) := by omega
 rw [show rl β (.int k j) = .int k j from rfl, run_sliceAt_slice (P := P) w t _ _ _ _ (by rw [hel]; exact hul), run_slice_l (P := P) w t _ _ _ (by rw [hel]; exact hul) k j hj.1 (by omega), hel]
 simp [pv_run _ hsz w, sliced, hne]
def shp : List Value → List Value → Bool
 | [], [] => true
 | .int k _ :: zs, .int k' _ :: cs => decide (k = k') && shp zs cs
 | _, _ => false
def shapeOk (z : Value) (c : List Value) : Bool := match z, c with
 | .agg zs, c => shp zs.toList c
 | .int k _, [.int k' _] => decide (k = k')
 | .string _, [.string _] => true
 | _, _ => false
def newRow (z : Value) (c : List Value) : Value := match z with | .agg _ => .agg ⟨c⟩ | _ => c.headD undef
theorem shp_asC : ∀ {zs cs : List Value}, shp zs cs = true → asC zs cs = cs ∧ cs.length = zs.length ∧ ∀ x ∈ cs, plain x = true ∧ x.oneCell' = true
 | [], [], _ => ⟨rfl, rfl, fun x hx => by simp at hx⟩
 | .int k n :: zs, .int k' n' :: cs, h => by
  simp only [shp, Bool.and_eq_true, decide_eq_true_eq] at h
  obtain ⟨rfl, h⟩ := h
  obtain ⟨h1, h2, h3⟩ := shp_asC h
  refine ⟨by simp [asC, cI, h1], by simp [h2], fun x hx => ?_⟩
  rcases List.mem_cons.1 hx with rfl | hx
  ·exact ⟨rfl, rfl⟩
  ·exact h3 x hx
 | [], _ :: _, h => by simp [shp] at h
 | .int _ _ :: _, [], h => by simp [shp] at h
 | .int _ _ :: _, .bool _ :: _, h => by simp [shp] at h
 | .int _ _ :: _, .float .. :: _, h => by simp [shp] at h
 | .int _ _ :: _, .complex .. :: _, h => by simp [shp] at h
 | .int _ _ :: _, .string _ :: _, h => by simp [shp] at h
 | .int _ _ :: _, .pointer _ :: _, h => by simp [shp] at h
 | .int _ _ :: _, .slice .. :: _, h => by simp [shp] at h
 | .int _ _ :: _, .map _ :: _, h => by simp [shp] at h
 | .int _ _ :: _, .chan _ :: _, h => by simp [shp] at h
 | .int _ _ :: _, .func .. :: _, h => by simp [shp] at h
 | .int _ _ :: _, .nilFunc :: _, h => by simp [shp] at h
 | .int _ _ :: _, .iface .. :: _, h => by simp [shp] at h
 | .int _ _ :: _, .nilIface :: _, h => by simp [shp] at h
 | .int _ _ :: _, .agg _ :: _, h => by simp [shp] at h
 | .int _ _ :: _, .tuple _ :: _, h => by simp [shp] at h
 | .bool _ :: _, _, h => by simp [shp] at h
 | .float .. :: _, _, h => by simp [shp] at h
 | .complex .. :: _, _, h => by simp [shp] at h
 | .string _ :: _, _, h => by simp [shp] at h
 | .pointer _ :: _, _, h => by simp [shp] at h
 | .slice .. :: _, _, h => by simp [shp] at h
 | .map _ :: _, _, h => by simp [shp] at h
 | .chan _ :: _, _, h => by simp [shp] at h
 | .func .. :: _, _, h => by simp [shp] at h
 | .nilFunc :: _, _, h => by simp [shp] at h
 | .iface .. :: _, _, h => by simp [shp] at h
 | .nilIface :: _, _, h => by simp [shp] at h
 | .agg _ :: _, _, h => by simp [shp] at h
 | .tuple _ :: _, _, h => by simp [shp] at h
theorem newRow_ok {z : Value} {c : List Value} (h : shapeOk z c = true) : newRow z c = rowAs z (newRow z c) ∧ (newRow z c).cells.toList = c ∧ c.length = z.cells.size ∧ ∀ x ∈ c, plain x = true ∧ x.oneCell' = true := by
 unfold shapeOk at h
 split at h
 ·rename_i zs cs
  obtain ⟨h1, h2, h3⟩ := shp_asC h
  exact ⟨by simp [newRow, rowAs, Value.cells, h1], rfl, by simpa [Value.cells] using h2, h3⟩
 ·rename_i k n k' n'
  simp only [decide_eq_true_eq] at h
  subst h
  exact ⟨rfl, rfl, rfl, fun x hx => by simp only [List.mem_singleton] at hx; subst hx; exact ⟨rfl, rfl⟩⟩
 ·exact ⟨rfl, rfl, rfl, fun x hx => by simp only [List.mem_singleton] at hx; subst hx; exact ⟨rfl, rfl⟩⟩
 ·simp at h
def preR (rows : List Value) (g : Bool) (x : Value) : List Value := match g with | true => rows ++ [x] | false => (x :: rows).reverse
def listB {R : Type} (P : Program) (m : Nat) (b : Builtin) (ts : Array TypeId) (args : List Value) (σ : LH) (K : Value → LH → Bool → Option R) : Option R :=
 match b, args with
 | .len, [.slice (some ⟨bk, of, some _⟩) _ _] => match σ[bk]?, ts.toList[0]? with
  | some (⟨[.tuple ⟨rows⟩, .bool g, z]⟩, _), some t => match pv P (underlying t) with
   | some (.slice _) => K (goInt (rows.length - of : Nat)) σ true
   | _ => none
  | _, _ => none
 | .append, [.slice (some ⟨bk, 0, some _⟩) _ _, .slice (some ⟨b2, 0, none⟩) 1 _] => match σ[bk]?, σ[b2]? with
  | some (⟨[.tuple ⟨rows⟩, .bool true, z]⟩, e), some (⟨c2⟩, _) => match ts.toList with
   | [t, t'] => match pv P (underlying t) with
    | some (.slice e') => match pv P (typeInfo e) with
     | some i => match i.zero with
      | some z0 => match ((((Nat.beq t t' && Nat.beq e e') && Nat.ble m bk) && (Nat.beq i.size z.cells.size && Nat.beq z0.cells.size i.size)) && ((Nat.blt 0 i.size && Nat.blt 0 i.bytes) && isN ⟨c2⟩)) && shapeOk z c2 with
       | true => bif decide ((rows.length + 1) * i.bytes ≤ 140737488355328) then K (hdrV σ.length) (σ.set bk (deadC, e) ++ [(lstC (newRow z c2 :: rows) true z, e)]) false else none
       | false => none
      | none => none
     | none => none
    | _ => none
   | _ => none
  | _, _ => none
 | .append, [.slice (some ⟨b2, 0, none⟩) 1 1, .slice (some ⟨bk, 0, some _⟩) _ _] => match σ[bk]?, σ[b2]? with
  | some (⟨[.tuple ⟨rows⟩, .bool g, z]⟩, e), some (⟨c2⟩, e2) => match ts.toList with
   | [t, t'] => match pv P (underlying t) with
    | some (.slice e') => match pv P (typeInfo e) with
     | some i => match i.zero with
      | some z0 => match (((((Nat.beq t t' && Nat.beq e e') && Nat.beq e2 e) && Nat.ble m b2) && (Nat.beq i.size z.cells.size && Nat.beq z0.cells.size i.size)) && ((Nat.blt 0 i.size && Nat.blt 0 i.bytes) && isN ⟨c2⟩)) && shapeOk z c2 with
       | true => bif decide ((rows.length + 1) * i.bytes ≤ 140737488355328) then K (hdrV σ.length) (σ.set b2 (deadC, e) ++ [(lstC (preR rows g (newRow z c2)) true z, e)]) false else none
       | false => none
      | none => none
     | none => none
    | _ => none
   | _ => none
  | _, _ => none
 | _, _ => none
theorem pv_info {P : Program} {e : TypeId} {i : TypeInfo} (h : pv P (typeInfo e) = some i) : P.info? e = some i := by
 have hp : pv P (typeInfo e) = match P.info? e with | some i => some i | none => none := by
  simp only [typeInfo, program, Bind.bind, Sem.bind, pv]
  cases P.info? e <;> rfl
 rw [hp] at h
 split at h
 ·rename_i j hj; rw [hj]; exact h
 ·simp at h
theorem append_run {P : Program} {σ0 σ : LH} {W w : World} {β0 β : Nat → Pl} (hp : Hp σ0 W β0 β σ w) {bk b2 : Nat} {rows : List Value} {z : Value} {e e2 t : TypeId} {c2 : List Value} {i : TypeInfo} {z0 : Value} {n2 n3 n4 sp : Nat} {ty : TypeId}
  (hσ : σ[bk]? = some (lstC rows true z, e)) (h2 : σ[b2]? = some (⟨c2⟩, e2)) (hu : pv P (underlying t) = some (.slice e)) (hi : pv P (typeInfo e) = some i) (hz : i.zero = some z0)
  (hm : σ0.length ≤ bk) (hs1 : i.size = z.cells.size) (hs2 : z0.cells.size = i.size) (hs3 : 0 < i.size) (hn : isN ⟨c2⟩ = true) (hsh : shapeOk z c2 = true) (hb : (rows.length + 1) * i.bytes ≤ 140737488355328) (hbpos : 0 < i.bytes) :
  ∃ β' w', (∀ j, j < σ.length → β' j = β j) ∧ Hp σ0 W β0 β' (σ.set bk (deadC, e) ++ [(lstC (newRow z c2 :: rows) true z, e)]) w' ∧
   (Builtin.append_ #[t, t] ty #[rl β (.slice (some ⟨bk, 0, some sp⟩) n2 n3), rl β (.slice (some ⟨b2, 0, none⟩) 1 n4)]).run P w = .ok (rl β' (hdrV σ.length)) w' := by
 have L := hp.lies.lst bk rows true z e hσ
 obtain ⟨hr1, hr2, hr3, hr4⟩ := newRow_ok hsh
 have hbk : bk < σ.length := (List.getElem?_eq_some_iff.1 hσ).1
 have hown0 := L.gr rfl
 rw [inOrder_len] at hown0
 have hown : w.ownsRow W.heap.size e (β bk).sz (.slice (β bk).ha (β bk).hl (β bk).hc) rows.length (flat (inOrder rows true)) := by
  refine ⟨hown0.1, ?_⟩
  rcases hown0.2 with h3 | ⟨q, cap, cur, h3, h4, h5⟩
  ·exact .inl h3
  ·refine .inr ⟨q, cap, cur, h3, ?_, h5⟩
   simp only [Value.slice.injEq] at h3
   rcases L.lay with h6 | ⟨k, o, c, t', fz, h6, h7, _⟩
   ·have := (h6.2.2 rfl).1
    rw [this] at h3
    simp at h3
   ·rw [h6] at h3
    simp only [Option.some.injEq, Addr.mk.injEq] at h3
    rw [← h3.1.1]
    exact hp.own bk hm hbk k h7
 have hat := hp.lies.at h2 hn
 have hc2 : (⟨c2⟩ : Array Value).map (rl β) = ⟨c2⟩ := by
  conv => rhs; rw [← Array.map_id (⟨c2⟩ : Array Value)]
  exact Array.map_congr_left fun x hx => rl_plain (hr4 x (by simpa using hx)).1
 rw [hc2] at hat
 have hmax : rows.length + 1 ≤ maxLen := by
  have : (rows.length + 1) * 1 ≤ (rows.length + 1) * i.bytes := Nat.mul_le_mul_left _ hbpos
  simp only [maxLen]; omega
 obtain ⟨g, cap, w', hrun, hown', hgr, hwh, hlt⟩ := run_append_lies (P := P) w t ty W.heap.size e i z0 (β bk).sz i.bytes (pv_underlying hu) (pv_info hi) hz (by rw [hs1, L.szz]) rfl (by rw [hs2, hs1, L.szz]) L.szp
  (.slice (β bk).ha (β bk).hl (β bk).hc) rows.length (flat (inOrder rows true)) hown ⟨(β b2).blk, 0, none⟩ 1 n4 c2 (by rw [hr3, L.szz, Nat.one_mul]) (fun j u hj => by
   rw [add_at, Nat.zero_add]
   simp only [World.cell?, hat, Option.isSome_none, Bool.false_eq_true, if_false]
   simpa using hj) (fun u hu => (hr4 u hu).2) Nat.one_pos hmax hb hp.below.size _ rfl
 have hb0 : ∀ k, (Value.slice (β bk).ha (β bk).hl (β bk).hc).ownBlock = some k → (β bk).adr = some k := by
  intro k hk
  rcases L.lay with h6 | ⟨k', o, c, t', fz, h6, h7, _⟩
  ·have := (h6.2.2 rfl).1
   rw [this] at hk
   simp [Value.ownBlock] at hk
  ·rw [h6] at hk
   simp only [Value.ownBlock, Option.some.injEq] at hk
   rw [h7, hk]
 have hlk : live σ bk := live_l hσ
 have hp1 := hp.kill (b := bk) (e := e) hm
 have hliv : ∀ j, j < σ.length → live (σ.set bk (deadC, e)) j → live σ j ∧ j ≠ bk := by
  intro j hj hl
  have hjb : j ≠ bk := by
   intro he
   subst he
   exact hl e (List.getElem?_set_self hj)
  refine ⟨fun t' he => hl t' ?_, hjb⟩
  rw [List.getElem?_set_ne (Ne.symm hjb)]; exact he
 have hne : ∀ j, j < σ.length → live (σ.set bk (deadC, e)) j → ∀ k, (β j).adr = some k → (β bk).adr ≠ some k := by
  intro j hj hl k hk hkb
  obtain ⟨hl1, hjb⟩ := hliv j hj hl
  by_cases hmj : j < σ0.length
  ·rw [hp.ext j hmj] at hk
   have h3 := hp.low j hmj k hk
   have h4 := hp.own bk hm hbk k hkb
   omega
  ·rcases Nat.lt_or_gt_of_ne hjb with h3 | h3
   ·exact hp.inj j bk (by omega) h3 hbk hl1 hlk k hk hkb
   ·exact hp.inj bk j hm h3 hj hlk hl1 k hkb hk
 have hq : W.heap.size ≤ g := by
  rcases hown'.2 with ⟨h3, _⟩ | ⟨q, cap', cur, h3, h4, _⟩
  ·cases h3
  ·simp only [Value.slice.injEq, Option.some.injEq, Addr.mk.injEq] at h3
   rw [h3.1.1]; exact h4
 have hlc : rows.length + 1 ≤ cap := by
  rcases hown'.2 with ⟨h3, _⟩ | ⟨q, cap', cur, h3, _, _, h4, _⟩
  ·cases h3
  ·simp only [Value.slice.injEq] at h3
   rw [h3.2.2]; exact h4
 have hlen : (σ.set bk (deadC, e)).length = σ.length := by simp
 have hflat : flat (inOrder (newRow z c2 :: rows) true) = flat (inOrder rows true) ++ c2 := by
  simp [inOrder, flat, hr2]
 have key := hp1.newAt (w' := w') (lstC (newRow z c2 :: rows) true z) e ⟨some g, some ⟨g, 0, none⟩, rows.length + 1, cap, (β bk).sz⟩
  (fun j hj hl k hk => hgr.block k (hp1.up j hj k hk) (fun he => hne j (by omega) hl k hk (hb0 k he.symm)))
  hgr.size
  (hp.below.trans ⟨hgr.os, hgr.tape, hgr.output, by have := hp.below.size; have := hgr.size; omega, fun k hk => hgr.block k (by have := hp.below.size; omega) (fun he => by have := hp.own bk hm hbk k (hb0 k he.symm); omega)⟩)
  (fun hh => by simp [isN, lstC] at hh)
  (fun rows' g' z' he => by
   simp only [lstC, Array.mk.injEq, List.cons.injEq, Value.tuple.injEq, Value.bool.injEq, and_true] at he
   obtain ⟨rfl, rfl, rfl⟩ := he
   refine ⟨by simp [inOrder_len], ?_, L.szp, hlc, L.szz, .inr ?_, fun _ => ?_⟩
   ·intro r hr
    simp only [inOrder, List.reverse_cons, List.mem_append, List.mem_singleton] at hr
    rcases hr with hr | rfl
    ·exact L.row r hr
    ·refine ⟨hr1, ?_, fun x hx => ?_⟩
     ·rw [← Array.length_toList, hr2, hr3, L.szz]
     ·rw [hr2] at hx; exact (hr4 x hx).2
   ·rcases hown'.2 with ⟨h3, _⟩ | ⟨q, cap', cur, h3, h4, h5, h6, h7, h8, h9⟩
    ·cases h3
    ·simp only [Value.slice.injEq, Option.some.injEq, Addr.mk.injEq] at h3
     refine ⟨g, 0, cur, e, (0, 0), rfl, rfl, ?_, ?_⟩
     ·rw [h3.1.1]; exact h5
     ·rw [List.drop_zero, hflat, ← h9, inOrder_len]; rfl
   ·rw [hflat, inOrder_len]
    refine ⟨hown'.1, ?_⟩
    rcases hown'.2 with h3 | ⟨q, cap', cur, h3, h4, h5⟩
    ·exact .inl h3
    ·exact .inr ⟨q, cap', cur, h3, Nat.zero_le _, h5⟩)
  (fun k hk => by
   simp only [Option.some.injEq] at hk
   subst hk
   refine ⟨hq, hlt, fun j hj hl he => ?_⟩
   rcases hwh with h3 | h3
   ·exact hne j (by omega) hl g he (hb0 g h3)
   ·have := hp1.up j hj g he
    omega)
 obtain ⟨β', h3, h4, h5⟩ := key
 refine ⟨β', w', fun j hj => h3 j (by omega), h5, ?_⟩
 have e1 : rl β (.slice (some ⟨bk, 0, some sp⟩) n2 n3) = .slice (β bk).ha (β bk).hl (β bk).hc := rfl
 have e2 : rl β (.slice (some ⟨b2, 0, none⟩) 1 n4) = .slice (some ⟨(β b2).blk, 0, none⟩) 1 n4 := rfl
 have e3 : rl β' (hdrV σ.length) = .slice (some ⟨g, 0, none⟩) (rows.length + 1) cap := by
  rw [hlen] at h4
  simp [hdrV, rl, mvS, h4]
 rw [e1, e2, e3]
 exact hrun
theorem preR_in (rows : List Value) (g : Bool) (x : Value) : inOrder (preR rows g x) true = x :: inOrder rows g := by
 cases g <;> simp [preR, inOrder]
theorem ld0 {P : Program} (w : World) (a : Addr) : (loadCells a 0).run P w = .ok #[] w := by
 have := run_loadCells (P := P) w a 0 (fun _ => undef) (fun j hj => by omega)
 simpa using this
theorem prepend_run {P : Program} {σ0 σ : LH} {W w : World} {β0 β : Nat → Pl} (hp : Hp σ0 W β0 β σ w) {bk b2 : Nat} {rows : List Value} {g : Bool} {z : Value} {e t : TypeId} {c2 : List Value} {i : TypeInfo} {z0 : Value} {n2 n3 sp : Nat} {ty : TypeId}
  (hσ : σ[bk]? = some (lstC rows g z, e)) (h2 : σ[b2]? = some (⟨c2⟩, e)) (hu : pv P (underlying t) = some (.slice e)) (hi : pv P (typeInfo e) = some i) (hz : i.zero = some z0)
  (hm : σ0.length ≤ b2) (hs1 : i.size = z.cells.size) (hs2 : z0.cells.size = i.size) (hs3 : 0 < i.size) (hn : isN ⟨c2⟩ = true) (hsh : shapeOk z c2 = true) (hb : (rows.length + 1) * i.bytes ≤ 140737488355328) (hbpos : 0 < i.bytes) :
  ∃ β' w', (∀ j, j < σ.length → β' j = β j) ∧ Hp σ0 W β0 β' (σ.set b2 (deadC, e) ++ [(lstC (preR rows g (newRow z c2)) true z, e)]) w' ∧
   (Builtin.append_ #[t, t] ty #[rl β (.slice (some ⟨b2, 0, none⟩) 1 1), rl β (.slice (some ⟨bk, 0, some sp⟩) n2 n3)]).run P w = .ok (rl β' (hdrV σ.length)) w' := by
 have L := hp.lies.lst bk rows g z e hσ
 obtain ⟨hr1, hr2, hr3, hr4⟩ := newRow_ok hsh
 have hbk : b2 < σ.length := (List.getElem?_eq_some_iff.1 h2).1
 obtain ⟨kb, hkb, hat⟩ := hp.lies.blk b2 ⟨c2⟩ e h2 hn
 have hc2 : (⟨c2⟩ : Array Value).map (rl β) = ⟨c2⟩ := by
  conv => rhs; rw [← Array.map_id (⟨c2⟩ : Array Value)]
  exact Array.map_congr_left fun x hx => rl_plain (hr4 x (by simpa using hx)).1
 rw [hc2] at hat
 have hlr : (inOrder rows g).length = rows.length := inOrder_len
 have hmax : 1 + rows.length ≤ maxLen := by
  have : (rows.length + 1) * 1 ≤ (rows.length + 1) * i.bytes := Nat.mul_le_mul_left _ hbpos
  simp only [maxLen]; omega
 have hown : w.ownsRow W.heap.size e (β bk).sz (.slice (some ⟨kb, 0, none⟩) 1 1) 1 c2 :=
  ⟨by rw [hr3, L.szz, Nat.one_mul], .inr ⟨kb, 1, ⟨c2⟩, rfl, hp.own b2 hm hbk kb hkb, hat, Nat.le_refl _, by simp [maxLen], by simp [hr3, L.szz], List.take_of_length_le (by rw [hr3, L.szz, Nat.one_mul]; exact Nat.le_refl _)⟩⟩
 have hkl : kb < w.heap.size := hp.up b2 hbk kb hkb
 have hlen0 := L.len
 rw [hlr] at hlen0
 obtain ⟨q, cap, w', hrun, hown', hgr, hwh, hlt⟩ : ∃ q cap w', (Builtin.append_ #[t, t] ty #[.slice (some ⟨kb, 0, none⟩) 1 1, rl β (.slice (some ⟨bk, 0, some sp⟩) n2 n3)]).run P w = .ok (.slice (some ⟨q, 0, none⟩) (1 + rows.length) cap) w' ∧
   w'.ownsRow W.heap.size e (β bk).sz (.slice (some ⟨q, 0, none⟩) (1 + rows.length) cap) (1 + rows.length) (c2 ++ flat (inOrder rows g)) ∧ w.grownBy w' (some kb) ∧ (some kb = some q ∨ q = w.heap.size) ∧ q < w'.heap.size := by
  have hrl : rl β (.slice (some ⟨bk, 0, some sp⟩) n2 n3) = .slice (β bk).ha rows.length (β bk).hc := by simp [rl, mvS, hlen0]
  rw [hrl]
  cases hrs : rows with
  | nil =>
   have hin : inOrder ([] : List Value) g = [] := by cases g <;> rfl
   refine ⟨kb, 1, w, ?_, by rw [hin]; simpa [flat] using hown, ⟨rfl, rfl, rfl, Nat.le_refl _, fun _ _ _ => rfl⟩, Or.inl rfl, hkl⟩
   refine run_append_nothing w t t ty e i (pv_underlying hu) (pv_info hi) _ 1 1 (Nat.le_refl _) _ ⟨Or.inl ⟨e, pv_underlying hu⟩, fun w' => ?_, ?_, ?_, by simp, fun u hu => by simp at hu⟩
   ·simp [Builtin.lenOf]
   ·cases (β bk).ha <;> simp [Builtin.firstCells, ld0]
   ·cases (β bk).ha <;> simp [Builtin.firstCells, ld0]
  | cons r0 rest =>
   rw [← hrs]
   have hpos : 0 < rows.length := by rw [hrs]; simp
   rcases L.lay with ⟨_, h6, _⟩ | ⟨k, o, c, t', fz, h6, h7, h8, h9⟩
   ·rw [h6] at hlr; simp at hlr; omega
   rw [h6]
   have hfl : (flat (inOrder rows g)).length = rows.length * (β bk).sz := by rw [flat_len (n := (β bk).sz) fun r hr => (L.row r hr).2.1, hlr]
   exact run_append_lies (P := P) w t ty W.heap.size e i z0 (β bk).sz i.bytes (pv_underlying hu) (pv_info hi) hz (by rw [hs1, L.szz]) rfl (by rw [hs2, hs1, L.szz]) L.szp
    (.slice (some ⟨kb, 0, none⟩) 1 1) 1 c2 hown ⟨k, o, none⟩ rows.length (β bk).hc (flat (inOrder rows g)) hfl (fun j u hj => by
     rw [add_at]
     have hjl : j < rows.length * (β bk).sz := by rw [← hfl]; exact (List.getElem?_eq_some_iff.1 hj).1
     rw [← h9, hlr, List.getElem?_take_of_lt hjl, List.getElem?_drop] at hj
     simp only [World.cell?, h8, Option.isSome_none, Bool.false_eq_true, if_false]
     rw [← Array.getElem?_toList]
     exact hj) (fun u hu => by
     simp only [flat, List.mem_flatMap] at hu
     obtain ⟨r, hr, hu⟩ := hu
     exact (L.row r hr).2.2 u hu) hpos hmax (by rw [Nat.add_comm]; exact hb) hp.below.size _ rfl
 have hlk : live σ b2 := live_n h2 hn
 have hp1 := hp.kill (b := b2) (e := e) hm
 have hliv : ∀ j, j < σ.length → live (σ.set b2 (deadC, e)) j → live σ j ∧ j ≠ b2 := by
  intro j hj hl
  have hjb : j ≠ b2 := by
   intro he
   subst he
   exact hl e (List.getElem?_set_self hj)
  refine ⟨fun t' he => hl t' ?_, hjb⟩
  rw [List.getElem?_set_ne (Ne.symm hjb)]; exact he
 have hne : ∀ j, j < σ.length → live (σ.set b2 (deadC, e)) j → (β j).adr ≠ some kb := by
  intro j hj hl hk
  obtain ⟨hl1, hjb⟩ := hliv j hj hl
  by_cases hmj : j < σ0.length
  ·rw [hp.ext j hmj] at hk
   have h3 := hp.low j hmj kb hk
   have h4 := hp.own b2 hm hbk kb hkb
   omega
  ·rcases Nat.lt_or_gt_of_ne hjb with h3 | h3
   ·exact hp.inj j b2 (by omega) h3 hbk hl1 hlk kb hk hkb
   ·exact hp.inj b2 j hm h3 hj hlk hl1 kb hkb hk
 have hq : W.heap.size ≤ q := by
  rcases hown'.2 with ⟨h3, _⟩ | ⟨q', cap', cur, h3, h4, _⟩
  ·cases h3
  ·simp only [Value.slice.injEq, Option.some.injEq, Addr.mk.injEq] at h3
   rw [h3.1.1]; exact h4
 have hlc : 1 + rows.length ≤ cap := by
  rcases hown'.2 with ⟨h3, _⟩ | ⟨q', cap', cur, h3, _, _, h4, _⟩
  ·cases h3
  ·simp only [Value.slice.injEq] at h3
   rw [h3.2.2]; exact h4
 have hlen : (σ.set b2 (deadC, e)).length = σ.length := by simp
 have hflat : flat (inOrder (preR rows g (newRow z c2)) true) = c2 ++ flat (inOrder rows g) := by
  rw [preR_in]; simp [flat, hr2]
 have hil : (inOrder (preR rows g (newRow z c2)) true).length = 1 + rows.length := by rw [preR_in, List.length_cons, hlr]; omega
 have key := hp1.newAt (w' := w') (lstC (preR rows g (newRow z c2)) true z) e ⟨some q, some ⟨q, 0, none⟩, 1 + rows.length, cap, (β bk).sz⟩
  (fun j hj hl k hk => hgr.block k (hp1.up j hj k hk) (fun he => by
   simp only [Option.some.injEq] at he
   subst he
   exact hne j (by omega) hl hk))
  hgr.size
  (hp.below.trans ⟨hgr.os, hgr.tape, hgr.output, by have := hp.below.size; have := hgr.size; omega, fun k hk => hgr.block k (by have := hp.below.size; omega) (fun he => by
   simp only [Option.some.injEq] at he
   have := hp.own b2 hm hbk kb hkb
   omega)⟩)
  (fun hh => by simp [isN, lstC] at hh)
  (fun rows' g' z' he => by
   simp only [lstC, Array.mk.injEq, List.cons.injEq, Value.tuple.injEq, Value.bool.injEq, and_true] at he
   obtain ⟨rfl, rfl, rfl⟩ := he
   refine ⟨hil.symm, ?_, L.szp, hlc, L.szz, .inr ?_, fun _ => ?_⟩
   ·intro r hr
    rw [preR_in] at hr
    rcases List.mem_cons.1 hr with rfl | hr
    ·refine ⟨hr1, ?_, fun x hx => ?_⟩
     ·rw [← Array.length_toList, hr2, hr3, L.szz]
     ·rw [hr2] at hx; exact (hr4 x hx).2
    ·exact L.row r hr
   ·rcases hown'.2 with ⟨h3, _⟩ | ⟨q', cap', cur, h3, h4, h5, h6, h7, h8, h9⟩
    ·cases h3
    ·simp only [Value.slice.injEq, Option.some.injEq, Addr.mk.injEq] at h3
     refine ⟨q, 0, cur, e, (0, 0), rfl, rfl, ?_, ?_⟩
     ·rw [h3.1.1]; exact h5
     ·rw [List.drop_zero, hflat, ← h9, hil]
   ·rw [hflat, hil]
    refine ⟨hown'.1, ?_⟩
    rcases hown'.2 with h3 | ⟨q', cap', cur, h3, h4, h5⟩
    ·exact .inl h3
    ·exact .inr ⟨q', cap', cur, h3, Nat.zero_le _, h5⟩)
  (fun k hk => by
   simp only [Option.some.injEq] at hk
   subst hk
   refine ⟨hq, hlt, fun j hj hl he => ?_⟩
   rcases hwh with h3 | h3
   ·simp only [Option.some.injEq] at h3
    subst h3
    exact hne j (by omega) hl he
   ·have := hp1.up j hj q he
    omega)
 obtain ⟨β', h3, h4, h5⟩ := key
 refine ⟨β', w', fun j hj => h3 j (by omega), h5, ?_⟩
 have e2 : rl β (.slice (some ⟨b2, 0, none⟩) 1 1) = .slice (some ⟨kb, 0, none⟩) 1 1 := by simp [rl, mvS, Pl.blk, hkb]
 have e3 : rl β' (hdrV σ.length) = .slice (some ⟨q, 0, none⟩) (1 + rows.length) cap := by
  rw [hlen] at h4
  simp [hdrV, rl, mvS, h4]
 rw [e2, e3]
 exact hrun
def textL (l : List Value) : ByteArray := strOfNums (l.map cI)
def allU8 : List Value → Bool
 | [] => true
 | .int .u8 _ :: r => allU8 r
 | _ :: _ => false
def isU8 : Value → Bool | .int .u8 _ => true | _ => false
def convS {R : Type} (P : Program) (src dst : TypeId) (x : Value) (σ : LH) (K : Value → Option R) : Option R :=
 match x with
 | .slice (some ⟨b, 0, some _⟩) _ _ => match σ[b]? with
  | some (⟨[.tuple ⟨rows⟩, .bool g, z]⟩, _) => match pv P (underlying src), pv P (underlying dst) with
   | some (.slice e), some .string => match pv P (underlying e) with
    | some (.int .u8) => match isU8 z with
     | true => K (.string (textL (inOrder rows g)))
     | false => none
    | _ => none
   | _, _ => none
  | _ => none
 | .slice (some ⟨b, 0, none⟩) n _ => match σ[b]? with
  | some (⟨c⟩, _) => match pv P (underlying src), pv P (underlying dst) with
   | some (.slice e), some .string => match pv P (underlying e) with
    | some (.int .u8) => match (isN ⟨c⟩ && allU8 c) && Nat.beq n c.length with
     | true => K (.string (textL c))
     | false => none
    | _ => none
   | _, _ => none
  | _ => none
 | _ => none
theorem allU8_mem : ∀ {c : List Value}, allU8 c = true → ∀ x ∈ c, x = .int .u8 (cI x)
 | [], _, x, hx => by simp at hx
 | .int .u8 n :: r, h, x, hx => by
  rcases List.mem_cons.1 hx with rfl | hx
  ·rfl
  ·exact allU8_mem (c := r) h x hx
theorem convS_run {R : Type} {P : Program} {β : Nat → Pl} {σ : LH} {w : World} (h : Lies β σ w) {src dst : TypeId} {x : Value} {K : Value → Option R} {r : R} (hl : convS P src dst x σ K = some r) :
  ∃ v, K v = some r ∧ plain v = true ∧ (convert src dst (rl β x)).run P w = .ok v w := by
 have getd : ∀ (l : List Value) (i : Nat) (v : Value), l[i]? = some v → (∀ x ∈ l, x = .int .u8 (cI x)) → v = .int .u8 ((l.map cI).getD i 0) := by
  intro l i v hv hall
  rw [hall v (List.mem_of_getElem? hv)]
  simp [List.getD, List.getElem?_map, hv]
 unfold convS at hl
 split at hl
 ·rename_i b sp n1 n2
  split at hl
  case h_2 => simp at hl
  rename_i rows g z e0 hσ
  split at hl
  case h_2 => simp at hl
  rename_i e hs hd
  split at hl
  case h_2 => simp at hl
  rename_i he
  split at hl
  case h_2 => simp at hl
  rename_i hz
  refine ⟨_, hl, rfl, ?_⟩
  have L := h.lst b rows g z e0 hσ
  have hlen := L.len
  obtain ⟨nz, rfl⟩ : ∃ n, z = .int .u8 n := by
   unfold isU8 at hz
   split at hz
   ·exact ⟨_, rfl⟩
   ·cases hz
  have hsz : (β b).sz = 1 := by rw [← L.szz]; rfl
  have hall : ∀ x ∈ inOrder rows g, x = .int .u8 (cI x) := fun x hx => by
   have := (L.row x hx).1
   simpa [rowAs] using this
  have hrl : rl β (.slice (some ⟨b, 0, some sp⟩) n1 n2) = .slice (β b).ha (inOrder rows g).length (β b).hc := by simp [rl, mvS, hlen]
  rw [hrl]
  rcases L.lay with ⟨_, h2, _⟩ | ⟨k, o, c, t', fz, h1, h2, h3, h4⟩
  ·rw [h2]
   simp only [List.length_nil]
   cases hha : (β b).ha with
   | none => exact run_convert_bytes_nil w src e (pv_underlying hs) (pv_underlying he) 0 _ dst (pv_underlying hd)
   | some a =>
    rw [run_convert_bytes_string w src dst e _ 0 _ (pv_underlying hs) (pv_underlying he) (pv_underlying hd), run_bytesToString w a 0 _ [] (by simpa using ld0 (P := P) w a)]
    rfl
  ·rw [h1]
   refine run_convert_bytes_arg w src e (pv_underlying hs) (pv_underlying he) k o _ _ ((inOrder rows g).map cI) (by simp) (fun i hi => ?_) dst (pv_underlying hd)
   obtain ⟨r, hr⟩ : ∃ r, (inOrder rows g)[i]? = some r := ⟨_, List.getElem?_eq_getElem hi⟩
   have hc := hall r (List.mem_of_getElem? hr)
   have hrc : r.cells.toList[0]? = some r := by rw [hc]; rfl
   have := L.cell (j := 0) (x := r) hr hrc
   simp only [Pl.blk, Pl.off, h1, h2, hsz, Option.getD_some, Nat.mul_one, Nat.add_zero] at this
   rw [this, getd _ i r hr hall]
 ·rename_i b n n2
  split at hl
  case h_2 => simp at hl
  rename_i c e0 hσ
  split at hl
  case h_2 => simp at hl
  rename_i e hs hd
  split at hl
  case h_2 => simp at hl
  rename_i he
  split at hl
  case h_2 => simp at hl
  rename_i hc
  simp only [Bool.and_eq_true] at hc
  obtain ⟨⟨hn, hu8⟩, hln⟩ := hc
  have hln := Nat.eq_of_beq_eq_true hln
  refine ⟨_, hl, rfl, ?_⟩
  have hall := allU8_mem hu8
  have hat := h.at hσ hn
  have hcm : (⟨c⟩ : Array Value).map (rl β) = ⟨c⟩ := by
   conv => rhs; rw [← Array.map_id (⟨c⟩ : Array Value)]
   exact Array.map_congr_left fun x hx => by rw [hall x (by simpa using hx)]; rfl
  rw [hcm] at hat
  have hrl : rl β (.slice (some ⟨b, 0, none⟩) n n2) = .slice (some ⟨(β b).blk, 0, none⟩) n n2 := rfl
  rw [hrl]
  refine run_convert_bytes_arg w src e (pv_underlying hs) (pv_underlying he) (β b).blk 0 n n2 (c.map cI) (by simp [hln]) (fun i hi => ?_) dst (pv_underlying hd)
  obtain ⟨r, hr⟩ : ∃ r, c[i]? = some r := ⟨_, List.getElem?_eq_getElem (by omega)⟩
  simp only [World.cell?, hat, Option.isSome_none, Bool.false_eq_true, if_false, Nat.zero_add]
  rw [← Array.getElem?_toList]
  rw [hr, getd _ i r hr hall]
 ·simp at hl
theorem convS_val {R : Type} {P : Program} {src dst : TypeId} {x : Value} {σ : LH} {K : Value → Option R} {r : R} (h : convS P src dst x σ K = some r) :
  (∃ a l c, x = .slice (some a) l c) ∧ ∃ v, K v = some r ∧ ∀ (bs : LH) (S : Type) (K' : Value → Option S), convS P src dst x (σ ++ bs) K' = K' v := by
 have ext : ∀ {b : Nat} {y : Blk} {bs : LH}, σ[b]? = some y → (σ ++ bs)[b]? = some y := fun {b y bs} hb => by
  rw [List.getElem?_append_left (List.getElem?_eq_some_iff.1 hb).1]; exact hb
 unfold convS at h
 (repeat' split at h) <;> first | (simp at h; done) | skip
 ·rename_i hσ _ _ _ hs hd _ he _ hz
  refine ⟨⟨_, _, _, rfl⟩, _, h, fun bs S K' => ?_⟩
  unfold convS
  simp only [ext (bs := bs) hσ, hs, hd, he, hz]
 ·rename_i hσ _ _ _ hs hd _ he _ hz
  refine ⟨⟨_, _, _, rfl⟩, _, h, fun bs S K' => ?_⟩
  unfold convS
  simp only [ext (bs := bs) hσ, hs, hd, he, hz]
def setR (rows : List Value) (i : Nat) (y : Value) : List Value := rows.set (rows.length - 1 - i) y
theorem setR_rev {rows : List Value} {i : Nat} {y : Value} (h : i < rows.length) : (setR rows i y).reverse = rows.reverse.set i y := by
 apply List.ext_getElem
 ·simp [setR]
 ·intro j h1 h2
  simp only [List.length_reverse, List.length_set, setR] at h1 h2
  simp only [List.getElem_reverse, List.getElem_set, setR, List.length_set]
  by_cases hij : i = j
  ·subst hij; simp
  ·rw [if_neg hij, if_neg (by omega)]
theorem flat_set {n : Nat} : ∀ (l : List Value), (∀ r ∈ l, r.cells.size = n) → ∀ (i : Nat) (y : Value), i < l.length → y.cells.size = n → flat (l.set i y) = (flat l).take (i * n) ++ y.cells.toList ++ (flat l).drop (i * n + n) := by
 intro l
 induction l with
 | nil => intro _ i y hi; simp at hi
 | cons x l ih =>
  intro h i y hi hy
  have hx := h x (by simp)
  have hxl : x.cells.toList.length = n := by simpa using hx
  cases i with
  | zero =>
   simp only [List.set_cons_zero, flat, List.flatMap_cons, Nat.zero_mul, Nat.zero_add, List.take_zero, List.nil_append]
   rw [List.drop_left' hxl]
  | succ i =>
   have := ih (fun r hr => h r (by simp [hr])) i y (by simp at hi; omega) hy
   simp only [List.set_cons_succ, flat, List.flatMap_cons] at this ⊢
   rw [this, show (i + 1) * n = n + i * n by rw [Nat.succ_mul]; omega]
   rw [List.take_append, List.take_of_length_le (show x.cells.toList.length ≤ n + i * n by omega), hxl, show n + i * n - n = i * n by omega]
   rw [show n + i * n + n = n + (i * n + n) by omega, List.drop_append, List.drop_eq_nil_of_le (show x.cells.toList.length ≤ n + (i * n + n) by omega), hxl, show n + (i * n + n) - n = i * n + n by omega]
   simp
theorem newRow_self {z : Value} (h : shapeOk z z.cells.toList = true) : newRow z z.cells.toList = z := by
 cases z <;> first | (simp [shapeOk] at h; done) | rfl
theorem Hp.writeL {σ0 σ : LH} {W w : World} {β0 β : Nat → Pl} (h : Hp σ0 W β0 β σ w) {b i : Nat} {rows : List Value} {z y : Value} {e : TypeId}
  (hb : σ0.length ≤ b) (hσ : σ[b]? = some (lstC rows true z, e)) (hi : i < rows.length) (hy : y = rowAs z y ∧ y.cells.size = z.cells.size ∧ ∀ x ∈ y.cells.toList, plain x = true ∧ x.oneCell' = true) :
  ∃ w', Hp σ0 W β0 β (σ.set b (lstC (setR rows i y) true z, e)) w' ∧ ∀ (P : Program), (storeCells ⟨(β b).blk, (β b).off i, none⟩ y.cells.toList).run P w = .ok () w' := by
 have hlt : b < σ.length := (List.getElem?_eq_some_iff.1 hσ).1
 have L := h.lies.lst b rows true z e hσ
 have hrl : (inOrder rows true).length = rows.length := inOrder_len
 have hgr := L.gr rfl
 have hsz := L.szp
 obtain ⟨k, cap, cur, q1, -, q2, q3, q4, q5, q6⟩ : ∃ g cap cur, Value.slice (β b).ha (β b).hl (β b).hc = .slice (some ⟨g, 0, none⟩) (inOrder rows true).length cap ∧ 0 ≤ g ∧ w.heap[g]? = some (.cells cur e (0, 0)) ∧ (inOrder rows true).length ≤ cap ∧ cap ≤ maxLen ∧ cur.size = cap * (β b).sz ∧ cur.toList.take ((inOrder rows true).length * (β b).sz) = flat (inOrder rows true) := by
  rcases hgr.2 with ⟨_, h0⟩ | h0
  ·omega
  ·exact h0
 simp only [Value.slice.injEq] at q1
 have hadr : (β b).adr = some k := by
  rcases L.lay with ⟨_, h0, _⟩ | ⟨k', o, c, t', fz, h1, h2, _⟩
  ·have := congrArg List.length h0; simp only [List.length_nil] at this; omega
  ·rw [h1] at q1
   simp only [Option.some.injEq, Addr.mk.injEq] at q1
   rw [h2, q1.1.1]
 have hblk : (β b).blk = k := by simp [Pl.blk, hadr]
 have hoff : (β b).off i = i * (β b).sz := by simp [Pl.off, q1.1]
 have hys : y.cells.size = (β b).sz := by rw [hy.2.1, L.szz]
 have hfit : i * (β b).sz + (β b).sz ≤ cur.size := by
  rw [q5]
  have h1 : (i + 1) * (β b).sz ≤ cap * (β b).sz := Nat.mul_le_mul_right _ (by omega)
  rw [Nat.succ_mul] at h1
  exact h1
 have hst := fun P : Program => run_storeCells_at P k (i * (β b).sz) e y.cells.toList 0 cur w q2 (by simp [hys]; omega) (fun v hv => (hy.2.2 v hv).2)
 simp only [Nat.add_zero] at hst
 have hlen : y.cells.toList.length = (β b).sz := by simpa using hys
 rw [hlen] at hst
 have hob := h.own b hb hlt k hadr
 have hlb : live σ b := live_l hσ
 have hne : ∀ j, j < σ.length → live σ j → j ≠ b → ∀ q, (β j).adr = some q → q ≠ k := by
  intro j hj hl hjb q hq he
  subst he
  by_cases hm : j < σ0.length
  ·rw [h.ext j hm] at hq
   have h2 := h.low j hm q hq
   omega
  ·rcases Nat.lt_or_gt_of_ne hjb with h1 | h1
   ·exact h.inj j b (by omega) h1 hlt hl hlb q hq hadr
   ·exact h.inj b j hb h1 hj hlb hl q hadr hq
 have hliv : ∀ j, live (σ.set b (lstC (setR rows i y) true z, e)) j → live σ j := by
  intro j hl t' he
  by_cases hjb : j = b
  ·subst hjb; exact hlb t' he
  ·refine hl t' ?_
   rw [List.getElem?_set_ne (Ne.symm hjb)]; exact he
 have hord : inOrder (setR rows i y) true = (inOrder rows true).set i y := setR_rev hi
 have hrs : ∀ r ∈ inOrder rows true, r.cells.size = (β b).sz := fun r hr => (L.row r hr).2.1
 have hfl := flat_set (inOrder rows true) hrs i y (by omega) hys
 have hnew : w.setRow k (cur.toList.take (i * (β b).sz) ++ y.cells.toList ++ cur.toList.drop (i * (β b).sz + (β b).sz)).toArray = w.setRow k (cur.toList.take (i * (β b).sz) ++ y.cells.toList ++ cur.toList.drop (i * (β b).sz + (β b).sz)).toArray := rfl
 refine ⟨w.setRow k (cur.toList.take (i * (β b).sz) ++ y.cells.toList ++ cur.toList.drop (i * (β b).sz + (β b).sz)).toArray, ?_, fun P => by rw [hblk, hoff]; exact hst P⟩
 have hheap : (w.setRow k (cur.toList.take (i * (β b).sz) ++ y.cells.toList ++ cur.toList.drop (i * (β b).sz + (β b).sz)).toArray).heap[k]? = some (.cells (cur.toList.take (i * (β b).sz) ++ y.cells.toList ++ cur.toList.drop (i * (β b).sz + (β b).sz)).toArray e (0, 0)) := setRow_heap w k _ _ _ _ q2
 have hcl : (cur.toList.take (i * (β b).sz) ++ y.cells.toList ++ cur.toList.drop (i * (β b).sz + (β b).sz)).length = cur.size := by
  simp [hys]; omega
 have htk : (cur.toList.take (i * (β b).sz) ++ y.cells.toList ++ cur.toList.drop (i * (β b).sz + (β b).sz)).take (rows.length * (β b).sz) = flat ((inOrder rows true).set i y) := by
  rw [hfl, ← q6, hrl]
  have h1 : (i + 1) * (β b).sz ≤ rows.length * (β b).sz := Nat.mul_le_mul_right _ hi
  rw [Nat.succ_mul] at h1
  rw [List.take_append, List.take_of_length_le (show (cur.toList.take (i * (β b).sz) ++ y.cells.toList).length ≤ rows.length * (β b).sz by simp [hys]; omega)]
  congr 1
  ·congr 1
   rw [List.take_take, Nat.min_eq_left (by omega)]
  ·rw [List.drop_take]
   congr 1
   simp [hys]
   omega
 have hsetlen : ((inOrder rows true).set i y).length = rows.length := by simp [inOrder_len]
 refine ⟨⟨fun j c1 t1 hj hn1 => ?_, fun j c1 t1 hj hn1 v hv => ?_, fun j rows2 g2 z2 t1 hj => ?_⟩, by simpa using h.mle, fun j hj => ?_, h.ext, h.low, fun j h1 h2 => h.own j h1 (by simpa using h2), fun j j' h1 h2 h3 l1 l2 => h.inj j j' h1 h2 (by simpa using h3) (hliv j l1) (hliv j' l2), fun j hj q hq => ?_, ?_⟩
 ·by_cases hjb : j = b
  ·subst hjb
   rw [List.getElem?_set_self hlt] at hj
   simp only [Option.some.injEq, Prod.mk.injEq] at hj
   rw [← hj.1] at hn1
   simp [isN, lstC] at hn1
  ·rw [List.getElem?_set_ne (Ne.symm hjb)] at hj
   have hj' := (List.getElem?_eq_some_iff.1 hj).1
   obtain ⟨q, h1, h2⟩ := h.lies.blk j c1 t1 hj hn1
   refine ⟨q, h1, ?_⟩
   rw [setRow_other _ _ _ _ (hne j hj' (live_n hj hn1) hjb q h1)]
   exact h2
 ·simp only [List.length_set]
  by_cases hjb : j = b
  ·subst hjb
   rw [List.getElem?_set_self hlt] at hj
   simp only [Option.some.injEq, Prod.mk.injEq] at hj
   rw [← hj.1] at hn1
   simp [isN, lstC] at hn1
  ·rw [List.getElem?_set_ne (Ne.symm hjb)] at hj
   exact h.lies.sc j c1 t1 hj hn1 v hv
 ·by_cases hjb : j = b
  ·subst hjb
   rw [List.getElem?_set_self hlt] at hj
   simp only [lstC, Option.some.injEq, Prod.mk.injEq, Array.mk.injEq, List.cons.injEq, Value.tuple.injEq, Value.bool.injEq, and_true] at hj
   obtain ⟨⟨rfl, rfl, rfl⟩, rfl⟩ := hj
   refine ⟨by rw [hord, hsetlen, L.len, hrl], fun r hr => ?_, hsz, L.lc, L.szz, .inr ⟨k, 0, _, e, (0, 0), q1.1, hadr, hheap, ?_⟩, fun _ => ⟨?_, .inr ⟨k, cap, _, ?_, Nat.zero_le _, hheap, ?_, q4, ?_, ?_⟩⟩⟩
   ·rw [hord] at hr
    rcases List.mem_or_eq_of_mem_set hr with hr | rfl
    ·exact L.row r hr
    ·exact ⟨hy.1, hys, fun x hx => (hy.2.2 x hx).2⟩
   ·rw [List.drop_zero, hord, hsetlen]; simpa using htk
   ·rw [flat_len (n := (β j).sz)]
    intro r hr
    rw [hord] at hr
    rcases List.mem_or_eq_of_mem_set hr with hr | rfl
    ·exact hrs r hr
    ·exact hys
   ·rw [hord, hsetlen, q1.1, q1.2.1, q1.2.2, hrl]
   ·rw [hord, hsetlen]; omega
   ·rw [← q5]; simpa using hcl
   ·rw [hord, hsetlen]; simpa using htk
  ·rw [List.getElem?_set_ne (Ne.symm hjb)] at hj
   have hj' := (List.getElem?_eq_some_iff.1 hj).1
   refine (h.lies.lst j rows2 g2 z2 t1 hj).mono fun q hq => ?_
   exact setRow_other _ _ _ _ (hne j hj' (live_l hj) hjb q hq)
 ·rw [List.getElem?_set_ne (by omega)]; exact h.pre j hj
 ·have := h.up j (by simpa using hj) q hq; simpa using this
 ·exact h.below.trans ⟨rfl, rfl, rfl, by simp, fun q hq => setRow_other _ _ _ _ (by omega)⟩
def storeS {R : Type} (P : Program) (m : Nat) (t : TypeId) (p y : Value) (σ : LH) (K : LH → Option R) : Option R :=
 match p with
 | .pointer (some ⟨b, i, some _⟩) => match σ[b]? with
  | some (⟨[.tuple ⟨rows⟩, .bool true, z]⟩, e) => match pv P (sizeOf t) with
   | some n => match (Nat.ble m b && Nat.beq n z.cells.size) && (shapeOk z y.cells.toList && decide (aggV z = aggV y)) with
    | true => bif decide (i < rows.length) then K (σ.set b (lstC (setR rows i y) true z, e)) else none
    | false => none
   | none => none
  | _ => none
 | _ => none
theorem row_of_shape {z y : Value} (h : shapeOk z y.cells.toList = true) (ha : aggV z = aggV y) : y = rowAs z y ∧ y.cells.size = z.cells.size ∧ ∀ x ∈ y.cells.toList, plain x = true ∧ x.oneCell' = true := by
 obtain ⟨h1, h2, h3, h4⟩ := newRow_ok h
 have hy : newRow z y.cells.toList = y := by
  cases z <;> first | (simp [shapeOk] at h; done) | skip
  all_goals (cases y <;> first | (simp [aggV] at ha; done) | rfl)
 rw [hy] at h1
 exact ⟨h1, by simpa using h3, h4⟩
theorem storeS_run {R : Type} {P : Program} {σ0 σ : LH} {W w : World} {β0 β : Nat → Pl} (h : Hp σ0 W β0 β σ w) {t : TypeId} {p y : Value} {K : LH → Option R} {r : R} (hl : storeS P σ0.length t p y σ K = some r) :
  ∃ σ' w', K σ' = some r ∧ σ'.length = σ.length ∧ Hp σ0 W β0 β σ' w' ∧ (Instr.storeAt t (rl β p) (rl β y)).run P w = .ok () w' := by
 unfold storeS at hl
 split at hl
 case h_2 => simp at hl
 rename_i b i sp
 split at hl
 case h_2 => simp at hl
 rename_i rows z e hσ
 split at hl
 case h_2 => simp at hl
 rename_i n hsz
 split at hl
 case h_2 => simp at hl
 rename_i hc
 simp only [Bool.and_eq_true, decide_eq_true_eq] at hc
 obtain ⟨⟨c1, c2⟩, c3, c4⟩ := hc
 cases hd : decide (i < rows.length) with
 | false => rw [hd] at hl; simp at hl
 | true =>
 rw [hd] at hl
 simp only [cond_true] at hl
 have hy := row_of_shape c3 c4
 obtain ⟨w', h1, h2⟩ := h.writeL (Nat.le_of_ble_eq_true c1) hσ (of_decide_eq_true hd) hy
 refine ⟨_, w', hl, by simp, h1, ?_⟩
 have hry : rl β y = y := by
  have := rowAs_plain z y
  rw [← hy.1] at this
  exact rl_plain this
 have hsure : ∀ w : World, (Instr.sureAddr (.pointer (some ⟨(β b).blk, (β b).off i, none⟩))).run P w = .ok ⟨(β b).blk, (β b).off i, none⟩ w := fun _ => rfl
 have hrl : rl β (.pointer (some ⟨b, i, some sp⟩)) = .pointer (some ⟨(β b).blk, (β b).off i, none⟩) := rfl
 rw [hrl, hry]
 simp only [Instr.storeAt, Sem.run_bind, hsure, Result.andThen_ok, storeVar, pv_run _ hsz w, hy.2.1, ← Nat.eq_of_beq_eq_true c2, ne_eq, not_true_eq_false, if_false]
 exact h2 P
theorem made_flat {z : Value} {n : Nat} (hz : 0 < z.cells.size) : (madeCells z.cells (n * z.cells.size)).toList = flat (List.replicate n z) := by
 have hall : ∀ r ∈ List.replicate n z, r.cells.size = z.cells.size := fun r hr => by rw [(List.mem_replicate.1 hr).2]
 apply List.ext_getElem?
 intro i
 by_cases hi : i < n * z.cells.size
 ·have h1 : i / z.cells.size < n := Nat.div_lt_of_lt_mul (by rw [Nat.mul_comm]; exact hi)
  have h2 : i % z.cells.size < z.cells.size := Nat.mod_lt _ hz
  have h3 := flat_get (n := z.cells.size) (List.replicate n z) hall (i / z.cells.size) (i % z.cells.size) z (by simp [h1]) h2
  have h4 : i / z.cells.size * z.cells.size + i % z.cells.size = i := by rw [Nat.mul_comm]; exact Nat.div_add_mod i _
  rw [h4] at h3
  rw [h3]
  have h5 : i < (madeCells z.cells (n * z.cells.size)).toList.length := by simp [size_madeCells, hi]
  rw [List.getElem?_eq_getElem h5]
  simp only [madeCells, Array.toList_map, List.getElem_map, Array.toList_range, List.getElem_range]
  rw [List.getElem?_eq_getElem (by simpa using h2)]
  simp [getElem!_pos, h2]
 ·rw [List.getElem?_eq_none (by simp [size_madeCells]; omega), List.getElem?_eq_none (by rw [flat_len hall]; simp; omega)]
def makeL {R : Type} (P : Program) (t : TypeId) (x y : Value) (σ : LH) (K : Value → LH → Bool → Option R) : Option R :=
 match x, y with
 | .int _ n, .int _ n' => match pv P (underlying t) with
  | some (.slice e) => match pv P (typeInfo e) with
   | some i => match i.zero with
    | some z => match (Nat.beq z.cells.size i.size && Nat.blt 0 i.size) && (Nat.blt 0 i.bytes && shapeOk z z.cells.toList) with
     | true => bif decide (n' = n ∧ 0 ≤ n ∧ n * (i.bytes : Int) ≤ 281474976710656) then K (hdrV σ.length) (σ ++ [(lstC (List.replicate n.toNat z) true z, e)]) true else none
     | false => none
    | none => none
   | none => none
  | _ => none
 | _, _ => none
theorem makeL_run {R : Type} {P : Program} {σ0 σ : LH} {W w : World} {β0 β : Nat → Pl} (hp : Hp σ0 W β0 β σ w) {t : TypeId} {x y : Value} {K : Value → LH → Bool → Option R} {r : R} (h : makeL P t x y σ K = some r) :
  ∃ v σ' β' w', (∀ i, i < σ.length → β' i = β i) ∧ σ.length ≤ σ'.length ∧ ((∀ i, i < σ.length → σ'[i]? = σ[i]?) ∧ Fresh σ.length σ'.length β' w w') ∧ inn σ'.length v = true ∧ Hp σ0 W β0 β' σ' w' ∧ K v σ' true = some r ∧
   (Instr.makeSlice t (rl β x) (rl β y)).run P w = .ok (rl β' v) w' := by
 unfold makeL at h
 split at h
 case h_2 => simp at h
 rename_i k1 n k2 n'
 split at h
 case h_2 => simp at h
 rename_i e hu
 split at h
 case h_2 => simp at h
 rename_i i hi
 split at h
 case h_2 => simp at h
 rename_i z hz
 split at h
 case h_2 => simp at h
 rename_i hc
 simp only [Bool.and_eq_true] at hc
 obtain ⟨⟨c1, c2⟩, c3, c4⟩ := hc
 cases hd : decide (n' = n ∧ 0 ≤ n ∧ n * (i.bytes : Int) ≤ 281474976710656) with
 | false => rw [hd] at h; simp at h
 | true =>
 rw [hd] at h
 simp only [cond_true] at h
 obtain ⟨rfl, d1, d2⟩ := of_decide_eq_true hd
 have hzs := Nat.eq_of_beq_eq_true c1
 have hpos : 0 < i.size := Nat.le_of_ble_eq_true c2
 have hbp : 0 < i.bytes := Nat.le_of_ble_eq_true c3
 obtain ⟨r1, r2, r3, r4⟩ := newRow_ok c4
 rw [newRow_self c4] at r1 r2
 have hn48 : n' ≤ 281474976710656 := by
  have : n' * 1 ≤ n' * (i.bytes : Int) := Int.mul_le_mul_of_nonneg_left (by omega) d1
  omega
 have hrun := run_make (P := P) w t e i z (pv_underlying hu) (pv_info hi) hz k1 k2 n' n' d1 (Int.le_refl _) (by rw [Int.mul_comm]; exact d2) (by omega)
 have hbz := hp.below.size
 have hmf := made_flat (z := z) (n := n'.toNat) (by omega)
 rw [hzs] at hmf
 have key := hp.newAt (w' := w.alloc (.cells (madeCells z.cells (n'.toNat * i.size)) e)) (lstC (List.replicate n'.toNat z) true z) e ⟨some w.heap.size, some ⟨w.heap.size, 0, none⟩, n'.toNat, n'.toNat, i.size⟩
  (fun j hj _ k hk => heap_alloc_old w _ k (hp.up j hj k hk)) (by simp)
  (hp.below.trans ⟨rfl, rfl, rfl, by simp, fun k hk => heap_alloc_old w _ k (by omega)⟩)
  (fun hh => by simp [isN, lstC] at hh)
  (fun rows g z'' he => by
   simp only [lstC, Array.mk.injEq, List.cons.injEq, Value.tuple.injEq, Value.bool.injEq, and_true] at he
   obtain ⟨rfl, rfl, rfl⟩ := he
   have hio : inOrder (List.replicate n'.toNat z) true = List.replicate n'.toNat z := by simp [inOrder]
   rw [hio]
   have hsz : (madeCells z.cells (n'.toNat * i.size)).size = n'.toNat * i.size := size_madeCells _ _
   refine ⟨by simp, fun r hr => ?_, hpos, Nat.le_refl _, hzs, .inr ⟨w.heap.size, 0, _, e, (0, 0), rfl, rfl, heap_alloc_new w _, ?_⟩, fun _ => ⟨?_, .inr ⟨w.heap.size, n'.toNat, _, ?_, Nat.zero_le _, heap_alloc_new w _, ?_, ?_, hsz, ?_⟩⟩⟩
   ·rw [(List.mem_replicate.1 hr).2]
    exact ⟨r1, hzs, fun x hx => (r4 x hx).2⟩
   ·rw [List.drop_zero, List.length_replicate, List.take_of_length_le (by simp [hsz]), hmf]
   ·rw [flat_len (n := i.size)]
    intro r hr
    rw [(List.mem_replicate.1 hr).2, hzs]
   ·simp
   ·simp
   ·simp only [maxLen]; omega
   ·rw [List.length_replicate, List.take_of_length_le (by simp [hsz]), hmf])
  (fun k hk => by
   simp only [Option.some.injEq] at hk
   subst hk
   exact ⟨hbz, by simp, fun j hj _ he => by have := hp.up j hj _ he; omega⟩)
 obtain ⟨β', h1, h2, h3⟩ := key
 refine ⟨_, _, β', _, h1, by simp, ⟨fun j hj => List.getElem?_append_left hj, by rw [List.length_append]; exact Fresh.push _ (by rw [h2])⟩, by simp [hdrV, inn], h3, h, ?_⟩
 have hrl : rl β' (hdrV σ.length) = .slice (some ⟨w.heap.size, 0, none⟩) n'.toNat n'.toNat := by simp [hdrV, rl, mvS, h2]
 rw [hrl]
 exact hrun
theorem storeS_val {R : Type} {P : Program} {m : Nat} {t : TypeId} {p y : Value} {σ : LH} {K : LH → Option R} {r : R} (h : storeS P m t p y σ K = some r) :
  ∃ σ', K σ' = some r ∧ ∀ (S : Type) (K' : LH → Option S), storeS P m t p y σ K' = K' σ' := by
 unfold storeS at h
 (repeat' split at h) <;> first | (simp at h; done) | skip
 rename_i b i sp _ rows z e hσ _ n hsz _ hc
 cases hd : decide (i < rows.length) with
 | false => rw [hd] at h; simp at h
 | true =>
 rw [hd] at h
 refine ⟨_, h, fun S K' => ?_⟩
 unfold storeS
 simp only [hσ, hsz, hc, hd, cond_true]
theorem makeL_val {R : Type} {P : Program} {t : TypeId} {x y : Value} {σ : LH} {K : Value → LH → Bool → Option R} {r : R} (h : makeL P t x y σ K = some r) :
  ∃ v σ', K v σ' true = some r ∧ ∀ (S : Type) (K' : Value → LH → Bool → Option S), makeL P t x y σ K' = K' v σ' true := by
 unfold makeL at h
 (repeat' split at h) <;> first | (simp at h; done) | skip
 rename_i _ n _ n' _ e hu _ i hi _ z hz _ hc
 cases hd : decide (n' = n ∧ 0 ≤ n ∧ n * (i.bytes : Int) ≤ 281474976710656) with
 | false => rw [hd] at h; simp at h
 | true =>
 rw [hd] at h
 refine ⟨_, _, h, fun S K' => ?_⟩
 unfold makeL
 simp only [hu, hi, hz, hc, hd, cond_true]
end Go.RX
