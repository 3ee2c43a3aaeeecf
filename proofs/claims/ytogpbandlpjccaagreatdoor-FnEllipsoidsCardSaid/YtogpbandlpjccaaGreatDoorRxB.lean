/- One operation: what the interpreter does, and that the machine does the same. -/
import Derived.Test.YtogpbandlpjccaaGreatDoorRxA
set_option linter.unusedSimpArgs false
set_option linter.unusedVariables false
namespace Go.RX
open Go.RowKit
abbrev Env := List (Nat × Value)
def look : Env → Nat → Value
 | [], _ => undef
 | (k, v) :: r, t => match Nat.beq k t with | true => v | false => look r t
def has : Env → Nat → Bool
 | [], _ => false
 | (k, _) :: r, t => match Nat.beq k t with | true => true | false => has r t
def evOk (tm : Env) : Operand → Bool
 | .global _ => false
 | .const v => plain v
 | .tmp t => has tm t
 | _ => true
def ev (tm : Env) : Operand → Value
 | .tmp t => look tm t
 | .const v => v
 | .global g => .pointer (some ⟨g, 0, none⟩)
 | .func f => .func (.func f) #[] #[]
structure Fr (n : Nat) (β : Nat → Pl) (tm : Env) (a : Act) : Prop where
 size : a.tmps.size = n
 val : ∀ t, has tm t = true → a.tmps.getD t undef = rl β (look tm t)
 defers : a.defers = []
theorem rl_undef {β : Nat → Pl} : rl β undef = undef := by simp [rl, undef]
theorem Fr.eval {n : Nat} {β : Nat → Pl} {tm : Env} {a : Act} (h : Fr n β tm a) {x : Operand} (hx : evOk tm x = true) : a.eval x = rl β (ev tm x) := by
 cases x with
 | tmp t => exact h.val t hx
 | const v => simp only [Act.eval, ev]; exact (rl_plain hx).symm
 | global g => simp [evOk] at hx
 | func f => simp [Act.eval, ev, rl]
theorem look_inn {n : Nat} {tm : Env} (h : ∀ p ∈ tm, inn n p.2 = true) (t : Nat) : inn n (look tm t) = true := by
 induction tm with
 | nil => rfl
 | cons p r ih =>
  obtain ⟨k, v⟩ := p
  simp only [look]
  split
  ·exact h (k, v) (by simp)
  ·exact ih fun q hq => h q (by simp [hq])
theorem ev_inn {n : Nat} {tm : Env} (h : ∀ p ∈ tm, inn n p.2 = true) {x : Operand} (hx : evOk tm x = true) : inn n (ev tm x) = true := by
 cases x with
 | tmp t => exact look_inn h t
 | const v => exact plain_inn hx
 | global g => simp [evOk] at hx
 | func f => rfl
def put (n : Nat) (dst : Option Nat) (v : Value) (tm : Env) : Option Env :=
 match dst with
 | some d => match Nat.ble (d + 1) n with | true => some ((d, v) :: tm) | false => none
 | none => some tm
theorem Fr.put {n : Nat} {β : Nat → Pl} {tm tm' : Env} {a : Act} (h : Fr n β tm a) {dst : Option Nat} {v : Value} (hp : put n dst v tm = some tm') : Fr n β tm' (a.put dst (rl β v)) := by
 cases dst with
 | none => simp only [RX.put, Option.some.injEq] at hp; subst hp; exact h
 | some d =>
  simp only [RX.put] at hp
  split at hp
  case h_2 => simp at hp
  rename_i hd
  have hd' : d < n := Nat.le_of_ble_eq_true hd
  simp only [Option.some.injEq] at hp
  subst hp
  refine ⟨by simp [Act.put, h.size], fun t ht => ?_, by simpa [Act.put] using h.defers⟩
  simp only [Act.put, look]
  by_cases hdt : d = t
  ·subst hdt
   rw [Nat.beq_refl]
   simp [Array.getD, h.size, hd']
  ·have hb : Nat.beq d t = false := by
    cases hb : Nat.beq d t
    ·rfl
    ·exact absurd (Nat.eq_of_beq_eq_true hb) hdt
   simp only [has, hb] at ht
   rw [hb]
   show _ = rl β (look tm t)
   rw [← h.val t ht]
   simp only [Array.getD_eq_getD_getElem?, Array.getElem?_setIfInBounds_ne hdt]
theorem Fr.ext {n m : Nat} {β β' : Nat → Pl} {tm : Env} {a : Act} (h : Fr n β tm a) (hs : ∀ p ∈ tm, inn m p.2 = true) (hb : ∀ i, i < m → β' i = β i) : Fr n β' tm a :=
 ⟨h.size, fun t ht => by rw [h.val t ht, rl_congr (look_inn hs t) hb], h.defers⟩
theorem put_inn {n m : Nat} {dst : Option Nat} {v : Value} {tm tm' : Env} (h : ∀ p ∈ tm, inn m p.2 = true) (hv : inn m v = true) (hp : put n dst v tm = some tm') : ∀ p ∈ tm', inn m p.2 = true := by
 cases dst with
 | none => simp only [put, Option.some.injEq] at hp; subst hp; exact h
 | some d =>
  simp only [put] at hp
  split at hp
  case h_2 => simp at hp
  simp only [Option.some.injEq] at hp
  subst hp
  intro p hp
  rcases List.mem_cons.1 hp with rfl | hp
  ·exact hv
  ·exact h p hp
def cellsOk : Value → Bool
 | .agg cs => cs.toList.all fun x => plain x && x.oneCell'
 | .tuple _ => false
 | _ => true
theorem cells_rl {β : Nat → Pl} {n : Nat} {v : Value} (h : cellsOk v = true) (hs : inn n v = true) :
  (rl β v).cells = v.cells.map (rl β) ∧ ∀ x ∈ v.cells.toList, inn n x = true ∧ x.oneCell' = true := by
 cases v with
 | agg cs =>
  simp only [cellsOk, List.all_eq_true, Bool.and_eq_true] at h
  refine ⟨?_, fun x hx => ⟨plain_inn (h x hx).1, (h x hx).2⟩⟩
  show cs = cs.map (rl β)
  conv => lhs; rw [← Array.map_id cs]
  exact Array.map_congr_left fun x hx => (rl_plain (h x (by simpa using hx)).1).symm
 | tuple vs => simp [cellsOk] at h
 | pointer a =>
  refine ⟨by cases a <;> simp [rl, Value.cells], fun x hx => ?_⟩
  simp only [Value.cells, List.mem_singleton] at hx
  subst hx
  exact ⟨hs, rfl⟩
 | slice a l c =>
  refine ⟨by cases a with
   | none => simp [rl, Value.cells]
   | some a => simp only [rl, mvS]; split <;> simp [Value.cells, rl, mvS, *], fun x hx => ?_⟩
  simp only [Value.cells, List.mem_singleton] at hx
  subst hx
  exact ⟨hs, rfl⟩
 | _ =>
  refine ⟨by simp [rl, Value.cells], fun x hx => ?_⟩
  simp only [Value.cells, List.mem_singleton] at hx
  subst hx
  exact ⟨hs, rfl⟩
def loadL (P : Program) (t : TypeId) (p : Value) (σ : LH) : Option Value :=
 match p with
 | .pointer (some ⟨b, off, none⟩) =>
  match σ[b]? with
  | some (c, _) =>
   match isN c with
   | true =>
    match pv P (isAgg t) with
    | some true =>
     match pv P (sizeOf t) with
     | some n =>
      match decide (off + n ≤ c.size) && ((c.toList.drop off).take n).all plain with
      | true => some (.agg ((c.toList.drop off).take n).toArray)
      | false => none
     | none => none
    | some false => c.toList[off]?
    | none => none
   | false => none
  | none => none
 | _ => none
theorem cell_of {β : Nat → Pl} {σ : LH} {w : World} (h : Lies β σ w) {b off : Nat} {c : Array Value} {t : TypeId} (hσ : σ[b]? = some (c, t)) (hn : isN c = true) {v : Value} (hv : c.toList[off]? = some v) :
  w.cell? ⟨(β b).blk, off, none⟩ = some (rl β v) := by
 have := h.at hσ hn
 simp only [World.cell?, this]
 simp only [Option.isSome_none, Bool.false_eq_true, if_false, Array.getElem?_map]
 rw [← Array.getElem?_toList, hv]
 rfl
theorem loadL_run {P : Program} {β : Nat → Pl} {σ : LH} {w : World} (h : Lies β σ w) {t : TypeId} {p v : Value} (hl : loadL P t p σ = some v) :
  (Instr.loadAt t (rl β p)).run P w = .ok (rl β v) w ∧ inn σ.length v = true := by
 unfold loadL at hl
 split at hl
 case h_2 => simp at hl
 rename_i b off
 split at hl
 case h_2 => simp at hl
 rename_i c e hσ
 have hrl : rl β (.pointer (some ⟨b, off, none⟩)) = .pointer (some ⟨(β b).blk, off, none⟩) := rfl
 have hsure : ∀ w : World, (Instr.sureAddr (.pointer (some ⟨(β b).blk, off, none⟩))).run P w = .ok ⟨(β b).blk, off, none⟩ w := fun _ => rfl
 split at hl
 case h_2 => simp at hl
 rename_i hn
 split at hl
 case h_3 => simp at hl
 ·rename_i hagg
  split at hl
  case h_2 => simp at hl
  rename_i n hsz
  split at hl
  case h_2 => simp at hl
  rename_i hok
  simp only [Bool.and_eq_true, decide_eq_true_eq, List.all_eq_true] at hok
  obtain ⟨hle, hpl⟩ := hok
  simp only [Option.some.injEq] at hl
  subst hl
  refine ⟨?_, rfl⟩
  have hlen : ((c.toList.drop off).take n).length = n := by simp; omega
  have hcells : (loadCells ⟨(β b).blk, off, none⟩ n).run P w = .ok ((c.toList.drop off).take n).toArray w := by
   have := run_loadCells_list (P := P) w ⟨(β b).blk, off, none⟩ ((c.toList.drop off).take n) (fun j v hj => by
    have hj1 := (List.getElem?_eq_some_iff.1 hj).1
    rw [List.getElem?_take_of_lt (by omega), List.getElem?_drop] at hj
    have hadd : (⟨(β b).blk, off, none⟩ : Addr).add j = ⟨(β b).blk, off + j, none⟩ := by unfold Addr.add; split <;> simp_all
    rw [hadd, cell_of h hσ hn hj]
    have hpv : plain v = true := hpl v (by
     rw [List.mem_iff_getElem?]
     exact ⟨j, by rw [List.getElem?_take_of_lt (by omega), List.getElem?_drop]; exact hj⟩)
    rw [rl_plain hpv])
   rwa [hlen] at this
  rw [hrl]
  simp only [Instr.loadAt, Sem.run_bind, hsure, Result.andThen_ok, loadVar, pv_run _ hagg w, pv_run _ hsz w, if_true, hcells, Sem.run_pure, rl]
 ·rename_i hagg
  refine ⟨?_, (h.sc b c e hσ hn v (List.mem_of_getElem? hl)).1⟩
  rw [hrl]
  simp only [Instr.loadAt, Sem.run_bind, hsure, Result.andThen_ok, loadVar, pv_run _ hagg w, Bool.false_eq_true, if_false, run_load, cell_of h hσ hn hl]
def storeL (P : Program) (m : Nat) (t : TypeId) (p v : Value) (σ : LH) : Option LH :=
 match p with
 | .pointer (some ⟨b, off, none⟩) =>
  match decide (m ≤ b) && cellsOk v with
  | true =>
   match σ[b]? with
   | some (c, e) =>
    match pv P (sizeOf t) with
    | some n =>
     match (decide (v.cells.size = n) && decide (off + n ≤ c.size)) && isN c with
     | true => some (σ.set b ((c.toList.take off ++ v.cells.toList ++ c.toList.drop (off + n)).toArray, e))
     | false => none
    | none => none
   | none => none
  | false => none
 | _ => none
theorem storeL_run {P : Program} {σ0 σ : LH} {W w : World} {β0 β : Nat → Pl} (h : Hp σ0 W β0 β σ w) {t : TypeId} {p v : Value} {σ' : LH}
  (hs : inn σ.length v = true) (hl : storeL P σ0.length t p v σ = some σ') :
  ∃ w', (Instr.storeAt t (rl β p) (rl β v)).run P w = .ok () w' ∧ Hp σ0 W β0 β σ' w' ∧ σ'.length = σ.length := by
 unfold storeL at hl
 split at hl
 case h_2 => simp at hl
 rename_i b off
 split at hl
 case h_2 => simp at hl
 rename_i hok
 simp only [Bool.and_eq_true, decide_eq_true_eq] at hok
 obtain ⟨hm, hc⟩ := hok
 split at hl
 case h_2 => simp at hl
 rename_i c e hσ
 split at hl
 case h_2 => simp at hl
 rename_i n hsz
 split at hl
 case h_2 => simp at hl
 rename_i hok2
 simp only [Bool.and_eq_true, decide_eq_true_eq] at hok2
 obtain ⟨⟨hn, hle⟩, hnn⟩ := hok2
 simp only [Option.some.injEq] at hl
 subst hl
 obtain ⟨hcr, hall⟩ := cells_rl (β := β) hc hs
 have hblk := h.lies.at hσ hnn
 have hw := h.write (c' := (c.toList.take off ++ v.cells.toList ++ c.toList.drop (off + n)).toArray) hm hσ hnn (fun x hx => by
  simp only [List.mem_append] at hx
  rcases hx with (hx | hx) | hx
  ·exact h.lies.sc b c e hσ hnn x (List.mem_of_mem_take hx)
  ·exact hall x hx
  ·exact h.lies.sc b c e hσ hnn x (List.mem_of_mem_drop hx))
 refine ⟨_, ?_, hw, by simp⟩
 have hsure : ∀ w : World, (Instr.sureAddr (.pointer (some ⟨(β b).blk, off, none⟩))).run P w = .ok ⟨(β b).blk, off, none⟩ w := fun _ => rfl
 have hrl : rl β (.pointer (some ⟨b, off, none⟩)) = .pointer (some ⟨(β b).blk, off, none⟩) := rfl
 have hst := run_storeCells_at P (β b).blk off e (v.cells.map (rl β)).toList 0 (c.map (rl β)) w hblk (by simp; omega) (fun x hx => by
  simp only [Array.toList_map, List.mem_map] at hx
  obtain ⟨y, hy, rfl⟩ := hx
  rw [rl_one]
  exact (hall y hy).2)
 rw [hrl]
 simp only [Instr.storeAt, Sem.run_bind, hsure, Result.andThen_ok, storeVar, hcr, pv_run _ hsz w, Array.size_map, hn, ne_eq, not_true_eq_false, if_false, hst]
 congr 2
 apply Array.ext'
 simp [hn]
def fieldL (P : Program) (s : TypeId) (p : Value) (f : Nat) : Option Value :=
 match p with
 | .pointer (some ⟨bk, of, none⟩) =>
  match pv P (underlying s) with
  | some (.struct fs) =>
   match fs[f]? with
   | some fd =>
    match pv P (sizeOf fd.type) with
    | some (_ + 1) => some (.pointer (some ((⟨bk, of, none⟩ : Addr).add fd.offset)))
    | _ => none
   | none => none
  | _ => none
 | _ => none
theorem rl_add {β : Nat → Pl} {b o n : Nat} : rl β (.pointer (some ((⟨b, o, none⟩ : Addr).add n))) = .pointer (some ((⟨(β b).blk, o, none⟩ : Addr).add n)) := by
 unfold Addr.add
 split <;> rfl
theorem add_block {a : Addr} {n : Nat} : (a.add n).block = a.block := by unfold Addr.add; split <;> rfl
theorem fieldL_run {P : Program} {β : Nat → Pl} {s : TypeId} {p v : Value} {f n : Nat} (hs : inn n p = true) (hl : fieldL P s p f = some v) :
  (∀ w, (Instr.fieldAt s (rl β p) f).run P w = .ok (rl β v) w) ∧ inn n v = true := by
 unfold fieldL at hl
 split at hl
 case h_2 => simp at hl
 rename_i bk of
 split at hl
 case h_2 => simp at hl
 rename_i fs hu
 split at hl
 case h_2 => simp at hl
 rename_i fd hf
 split at hl
 case h_2 => simp at hl
 rename_i k hsz
 simp only [Option.some.injEq] at hl
 subst hl
 refine ⟨fun w => ?_, ?_⟩
 ·rw [rl_add]
  have hsure : (Instr.sureAddr (.pointer (some ⟨(β bk).blk, of, none⟩))).run P w = .ok ⟨(β bk).blk, of, none⟩ w := rfl
  simp only [rl, mv, Instr.fieldAt, Sem.run_bind, pv_run _ hu w, Result.andThen_ok, hf, hsure, fieldPlace, pv_run _ hsz w, Nat.add_one_ne_zero, if_false, Sem.run_pure]
 ·simp only [inn, add_block, decide_eq_true_eq] at *
  exact hs
def indexL (P : Program) (t : TypeId) (p i : Value) : Option Value :=
 match p, i with
 | .pointer (some ⟨bk, of, none⟩), .int _ j =>
  match pv P (underlying t) with
  | some (.array len elem) =>
   match decide (0 ≤ j ∧ j < (len : Int)) with
   | true =>
    match pv P (sizeOf elem) with
    | some n => some (.pointer (some ((⟨bk, of, none⟩ : Addr).add (j.toNat * n))))
    | none => none
   | false => none
  | _ => none
 | .slice (some ⟨bk, of, none⟩) len _, .int _ j =>
  match pv P (underlying t) with
  | some (.slice elem) =>
   match decide (0 ≤ j ∧ j < (len : Int)) with
   | true =>
    match pv P (sizeOf elem) with
    | some n => some (.pointer (some ((⟨bk, of, none⟩ : Addr).add (j.toNat * n))))
    | none => none
   | false => none
  | _ => none
 | _, _ => none
theorem indexL_run {P : Program} {β : Nat → Pl} {t : TypeId} {p i v : Value} {n : Nat} (hs : inn n p = true) (hl : indexL P t p i = some v) :
  (∀ w, (Instr.indexAt t (rl β p) (rl β i)).run P w = .ok (rl β v) w) ∧ inn n v = true := by
 unfold indexL at hl
 split at hl
 case h_3 => simp at hl
 ·rename_i bk of k j
  split at hl
  case h_2 => simp at hl
  rename_i len elem hu
  split at hl
  case h_2 => simp at hl
  rename_i hj
  simp only [decide_eq_true_eq] at hj
  split at hl
  case h_2 => simp at hl
  rename_i m hsz
  simp only [Option.some.injEq] at hl
  subst hl
  refine ⟨fun w => ?_, ?_⟩
  ·rw [rl_add]
   have hsure : ∀ w : World, (Instr.sureAddr (.pointer (some ⟨(β bk).blk, of, none⟩))).run P w = .ok ⟨(β bk).blk, of, none⟩ w := fun _ => rfl
   simp [rl, mv, Instr.indexAt, asIntOf, Sem.run_bind, pv_run _ hu w, hsure, hj, pv_run _ hsz w]
  ·simp only [inn, add_block, decide_eq_true_eq] at *
   exact hs
 ·rename_i bk of len cap k j
  split at hl
  case h_2 => simp at hl
  rename_i elem hu
  split at hl
  case h_2 => simp at hl
  rename_i hj
  simp only [decide_eq_true_eq] at hj
  split at hl
  case h_2 => simp at hl
  rename_i m hsz
  simp only [Option.some.injEq] at hl
  subst hl
  refine ⟨fun w => ?_, ?_⟩
  ·rw [rl_add]
   simp [rl, mvS, Instr.indexAt, asIntOf, Sem.run_bind, pv_run _ hu w, hj, pv_run _ hsz w]
  ·simp only [inn, add_block, decide_eq_true_eq] at *
   exact hs
def rowL (P : Program) (t : TypeId) (len : Nat) (parts : List (Nat × Value)) : Option (TypeId × Array Value) :=
 match pv P (underlying t) with
 | some (.slice e) =>
  match pv P (sizeOf e), pv P (zeroValue e) with
  | some s, some z =>
   match decide (len * s ≤ 2 ^ 24) && decide (0 < len * s) with
   | true =>
    match Instr.fill (fun i => some (i * s, s)) (((List.range (len * s)).map fun i => z.cells.toList.getD (i % z.cells.toList.length) default).toArray) parts with
    | some cells => some (e, cells)
    | none => none
   | false => none
  | _, _ => none
 | _ => none
theorem rowL_run {P : Program} {t e : TypeId} {len : Nat} {parts : Array (Nat × Value)} {cells : Array Value} (h : rowL P t len parts.toList = some (e, cells)) (w : World) :
  (Instr.buildSlice t len parts).run P w = .ok (.slice (some ⟨w.heap.size, 0, none⟩) len len) { w with heap := w.heap.push (.cells cells e (0, 0)) } := by
 unfold rowL at h
 split at h
 case h_2 => simp at h
 rename_i e' hu
 split at h
 case h_2 => simp at h
 rename_i s z hs hz
 split at h
 case h_2 => simp at h
 rename_i hok
 simp only [Bool.and_eq_true, decide_eq_true_eq] at hok
 split at h
 case h_2 => simp at h
 rename_i cells' hf
 simp only [Option.some.injEq, Prod.mk.injEq] at h
 obtain ⟨rfl, rfl⟩ := h
 have h1 : ¬ len * s > 2 ^ 24 := by omega
 have h2 : ¬ len * s = 0 := by omega
 have hc : (Array.range (len * s)).map (fun i => z.cells[i % z.cells.size]!) = ((List.range (len * s)).map fun i => z.cells.toList.getD (i % z.cells.toList.length) default).toArray := by
  apply Array.ext'
  simp [Array.toList_map, Array.toList_range, getElem!_def, List.getD, Array.getElem?_toList]
  intro i hi
  split <;> simp_all
 simp only [Instr.buildSlice, Sem.run_bind, pv_run _ hu w, Result.andThen_ok, pv_run _ hs w, h1, if_false, h2, pv_run _ hz w, Sem.run_pure, hc, hf, newRow, newObj, Sem.run]
def eqF (P : Program) (f : TypeId → Value → Value → Option Bool) (xs ys : Array Value) : List Field → Option Bool
 | [] => some true
 | [fd] =>
  match fd.name == "_", pv P (part fd.type xs fd.offset), pv P (part fd.type ys fd.offset) with
  | false, some a, some b => f fd.type a b
  | _, _, _ => none
 | fd :: r =>
  match fd.name == "_", pv P (part fd.type xs fd.offset), pv P (part fd.type ys fd.offset) with
  | false, some a, some b =>
   match f fd.type a b, eqF P f xs ys r with
   | some c, some d => some (c && d)
   | _, _ => none
  | _, _, _ => none
def eqL (P : Program) : Nat → TypeId → Value → Value → Option Bool
 | 0, _, _, _ => none
 | d + 1, t, x, y =>
  match pv P (underlying t), x, y with
  | some .bool, .bool a, .bool b => some (a == b)
  | some (.int _), .int k a, .int k' b => match decide (k = k') with | true => some (a == b) | false => none
  | some (.struct fs), .agg xs, .agg ys => match P.stoodInHeld t with | false => eqF P (eqL P d) xs ys fs.toList | true => none
  | _, _, _ => none
theorem pv_underlying {P : Program} {t : TypeId} {d : TypeDesc} (h : pv P (underlying t) = some d) : P.underlying t = some d := by
 have : pv P (underlying t) = P.underlying t := by
  unfold underlying
  show pv P (match P.underlying t with | some d => pure d | none => stuck "no such type") = _
  cases P.underlying t <;> rfl
 rw [this] at h
 exact h
theorem eqF_run {P : Program} {d : Nat} {f : TypeId → Value → Value → Option Bool} (hf : ∀ t x y b, f t x y = some b → ∀ w, (Op.equalIn d t x y).run P w = .ok b w) {xs ys : Array Value} :
  ∀ (l : List Field) {b : Bool}, eqF P f xs ys l = some b → ∀ w, (Op.eqFields d xs ys l).run P w = .ok b w := by
 intro l
 induction l with
 | nil => intro b h w; simp only [eqF, Option.some.injEq] at h; subst h; rfl
 | cons fd r ih =>
  intro b h w
  cases r with
  | nil =>
   simp only [eqF] at h
   split at h
   case h_2 => simp at h
   rename_i a c hn ha hc
   have hn' : fd.name ≠ "_" := by simpa using hn
   simp only [Op.eqFields, if_pos hn', Sem.run_bind, pv_run _ ha w, pv_run _ hc w, hf _ _ _ _ h w, Result.andThen_ok]
   cases b <;> simp
  | cons g r =>
   rw [eqF] at h
   case x_1 => simp
   split at h
   case h_2 => simp at h
   rename_i a c hn ha hc
   have hn' : fd.name ≠ "_" := by simpa using hn
   split at h
   case h_2 => simp at h
   rename_i p q hp hq
   simp only [Option.some.injEq] at h
   subst h
   rw [Op.eqFields]
   simp only [if_pos hn', Sem.run_bind, pv_run _ ha w, pv_run _ hc w, hf _ _ _ _ hp w, Result.andThen_ok]
   cases p
   ·simp
   ·simpa using ih hq w
theorem eqL_run {P : Program} : ∀ (d : Nat) (t : TypeId) (x y : Value) (b : Bool), eqL P d t x y = some b → ∀ w, (Op.equalIn d t x y).run P w = .ok b w := by
 intro d
 induction d with
 | zero => intro t x y b h; simp [eqL] at h
 | succ d ih =>
  intro t x y b h w
  unfold eqL at h
  split at h
  ·rename_i a c hu
   simp only [Option.some.injEq] at h
   subst h
   exact run_equalIn_bool w d t a c (pv_underlying hu)
  ·rename_i k0 k a k' c hu
   split at h
   case h_2 => simp at h
   rename_i hk
   simp only [decide_eq_true_eq] at hk
   subst hk
   simp only [Option.some.injEq] at h
   subst h
   exact run_equalIn_int w d t k _ a c (pv_underlying hu)
  ·rename_i fs xs ys hu
   split at h
   case h_2 => simp at h
   rename_i hst
   have hu' := pv_underlying hu
   have hfs : P.fieldsOf t = fs := by simp [Program.fieldsOf, hu']
   rw [run_equalIn_struct (P := P) w d t xs ys (by rw [hfs]; exact hu') hst, hfs]
   exact eqF_run ih fs.toList h w
  ·simp at h
end Go.RX
