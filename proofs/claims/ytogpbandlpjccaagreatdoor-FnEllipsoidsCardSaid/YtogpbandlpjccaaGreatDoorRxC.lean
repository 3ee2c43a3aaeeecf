/- One operation, whole: the interpreter's step, and that the machine takes it. -/
import Derived.Test.YtogpbandlpjccaaGreatDoorRxI
import Derived.Laws.Tables
set_option linter.unusedSimpArgs false
set_option linter.unusedVariables false
namespace Go.RX
open Go.RowKit
def gen (P : Program) (o : Oper) (tm : Env) : Option Value :=
 match o.op.operands.toList.all (fun x => plain (ev tm x)) with
 | true => match pv P (execOp (ev tm) o) with
  | some (.value v) => match plain v with | true => some v | false => none
  | _ => none
 | false => none
theorem gen_run {P : Program} {n : Nat} {β : Nat → Pl} {o : Oper} {tm : Env} {a : Act} {v : Value} (hs : ∀ cs b, o.op ≠ .select cs b)
  (hx : ∀ x ∈ o.op.operands, a.eval x = rl β (ev tm x)) (hg : gen P o tm = some v) : plain v = true ∧ ∀ w, (execOp a.eval o).run P w = .ok (.value v) w := by
 unfold gen at hg
 split at hg
 case h_2 => simp at hg
 rename_i hall
 simp only [List.all_eq_true] at hall
 split at hg
 case h_2 => simp at hg
 rename_i v' hv
 split at hg
 case h_2 => simp at hg
 rename_i hp
 simp only [Option.some.injEq] at hg
 subst hg
 refine ⟨hp, fun w => ?_⟩
 rw [execOp_congr o hs (ρ' := ev tm) fun x hxo => by rw [hx x hxo, rl_plain (hall x (by simpa using hxo))]]
 exact pv_run _ hv w
def binL {R : Type} (P : Program) (o : Oper) (tm : Env) (op : BinOp) (t : TypeId) (x y : Value) (K : Value → Option R) : Option R :=
 match op, x, y with
 | .quo, .int k a, .int k' b => match decide (k = k') with
  | true => (match decide (b = 0) with | true => none | false => K (.int k (k.wrap (a.tdiv b))))
  | false => none
 | .rem, .int k a, .int k' b => match decide (k = k') with
  | true => (match decide (b = 0) with | true => none | false => K (.int k (a.tmod b)))
  | false => none
 | .shl, .int k a, .int _ b => (match decide (b < 0) with | true => none | false => K (.int k (k.wrap (a * 2 ^ (min b.toNat k.bits)))))
 | .shr, .int k a, .int _ b => (match decide (b < 0) with | true => none | false => K (.int k (a.fdiv (2 ^ (min b.toNat k.bits)))))
 | .eql, .agg xs, .agg ys => match (pv P (eqGuard op t (.const x) (.const y) x y)).isSome, eqL P Op.maxDepth t x y with
  | true, some b => K (.bool b)
  | _, _ => none
 | .neq, .agg xs, .agg ys => match (pv P (eqGuard op t (.const x) (.const y) x y)).isSome, eqL P Op.maxDepth t x y with
  | true, some b => K (.bool !b)
  | _, _ => none
 | .add, .string a, .string b => bif decide (a.size + b.size ≤ 9223372036854775807) then K (.string (a ++ b)) else none
 | _, _, _ => match gen P o tm with
  | some v => K v
  | none => none
theorem binL_run {R : Type} {P : Program} {n : Nat} {β : Nat → Pl} {o : Oper} {tm : Env} {a : Act} {op : BinOp} {t ty : TypeId} {x y : Operand} {K : Value → Option R} {r : R}
  (ho : o.op = .binOp op t x y ty) (hx : ∀ z ∈ o.op.operands, a.eval z = rl β (ev tm z)) (h : binL P o tm op t (ev tm x) (ev tm y) K = some r) :
  ∃ v, plain v = true ∧ (∀ w, (execOp a.eval o).run P w = .ok (.value v) w) ∧ K v = some r := by
 have hex : a.eval x = rl β (ev tm x) := hx x (by simp [ho, Op.operands])
 have hey : a.eval y = rl β (ev tm y) := hx y (by simp [ho, Op.operands])
 have hsel : ∀ cs b, o.op ≠ .select cs b := by rw [ho]; intro cs b hh; cases hh
 unfold binL at h
 split at h
 ·rename_i k a' k' b h1 h2
  split at h
  case h_2 => simp at h
  rename_i hk
  simp only [decide_eq_true_eq] at hk
  subst hk
  split at h
  ·simp at h
  rename_i hb
  simp only [decide_eq_false_iff_not] at hb
  refine ⟨_, rfl, fun w => ?_, h⟩
  simp [execOp, ho, hex, hey, h1, h2, rl, eqGuard, binOp, Op.intDiv, hb]
 ·rename_i k a' k' b h1 h2
  split at h
  case h_2 => simp at h
  rename_i hk
  simp only [decide_eq_true_eq] at hk
  subst hk
  split at h
  ·simp at h
  rename_i hb
  simp only [decide_eq_false_iff_not] at hb
  refine ⟨_, rfl, fun w => ?_, h⟩
  simp [execOp, ho, hex, hey, h1, h2, rl, eqGuard, binOp, Op.intDiv, hb]
 ·rename_i k a' k' b h1 h2
  split at h
  ·simp at h
  rename_i hb
  simp only [decide_eq_false_iff_not] at hb
  refine ⟨_, rfl, fun w => ?_, h⟩
  simp [execOp, ho, hex, hey, h1, h2, rl, eqGuard, binOp, Op.shift, hb]
 ·rename_i k a' k' b h1 h2
  split at h
  ·simp at h
  rename_i hb
  simp only [decide_eq_false_iff_not] at hb
  refine ⟨_, rfl, fun w => ?_, h⟩
  simp [execOp, ho, hex, hey, h1, h2, rl, eqGuard, binOp, Op.shift, hb]
 ·rename_i xs ys h1 h2
  split at h
  case h_2 => simp at h
  rename_i b hg he
  refine ⟨_, rfl, fun w => ?_, h⟩
  obtain ⟨u, hu⟩ := Option.isSome_iff_exists.1 hg
  rw [h1, h2] at hu he
  have hgr := pv_run _ hu w
  have her := eqL_run _ _ _ _ _ he w
  have hgr' : (eqGuard .eql t x y (.agg xs) (.agg ys)).run P w = .ok u w := hgr
  simp [execOp, ho, hex, hey, h1, h2, rl, hgr', binOp, Op.equal, her]
 ·rename_i xs ys h1 h2
  split at h
  case h_2 => simp at h
  rename_i b hg he
  refine ⟨_, rfl, fun w => ?_, h⟩
  obtain ⟨u, hu⟩ := Option.isSome_iff_exists.1 hg
  rw [h1, h2] at hu he
  have hgr := pv_run _ hu w
  have her := eqL_run _ _ _ _ _ he w
  have hgr' : (eqGuard .neq t x y (.agg xs) (.agg ys)).run P w = .ok u w := hgr
  simp [execOp, ho, hex, hey, h1, h2, rl, hgr', binOp, Op.equal, her]
 ·rename_i s1 s2 h1 h2
  cases hd : decide (s1.size + s2.size ≤ 9223372036854775807) with
  | false => rw [hd] at h; simp at h
  | true =>
  rw [hd] at h
  refine ⟨_, rfl, fun w => ?_, h⟩
  simp [execOp, ho, hex, hey, h1, h2, rl, eqGuard, binOp, run_string_add_sum (P := P) w s1 s2 (of_decide_eq_true hd)]
 ·split at h
  case h_2 => simp at h
  rename_i v hg
  obtain ⟨hp, hr⟩ := gen_run (n := n) hsel hx hg
  exact ⟨v, hp, hr, h⟩
def maxL (k : IntKind) (x : Int) : List Value → Option Value
 | [] => some (.int k x)
 | .int _ y :: r => maxL k (if y > x then y else x) r
 | _ => none
def minL (k : IntKind) (x : Int) : List Value → Option Value
 | [] => some (.int k x)
 | .int _ y :: r => minL k (if y < x then y else x) r
 | _ => none
theorem maxL_run {P : Program} {w : World} : ∀ (l : List Value) (k : IntKind) (x : Int) (v : Value), maxL k x l = some v → (l.foldlM Builtin.max2 (.int k x)).run P w = .ok v w ∧ plain v = true
 | [], k, x, v, h => by simp only [maxL, Option.some.injEq] at h; subst h; exact ⟨rfl, rfl⟩
 | y :: r, k, x, v, h => by
  cases y <;> simp only [maxL, reduceCtorEq] at h
  rename_i k' y
  have ih := maxL_run (P := P) (w := w) r k _ v h
  refine ⟨?_, ih.2⟩
  simp only [List.foldlM_cons, Builtin.max2, Sem.run_bind, Sem.run_pure, Result.andThen_ok]
  exact ih.1
theorem minL_run {P : Program} {w : World} : ∀ (l : List Value) (k : IntKind) (x : Int) (v : Value), minL k x l = some v → (l.foldlM Builtin.min2 (.int k x)).run P w = .ok v w ∧ plain v = true
 | [], k, x, v, h => by simp only [minL, Option.some.injEq] at h; subst h; exact ⟨rfl, rfl⟩
 | y :: r, k, x, v, h => by
  cases y <;> simp only [minL, reduceCtorEq] at h
  rename_i k' y
  have ih := minL_run (P := P) (w := w) r k _ v h
  refine ⟨?_, ih.2⟩
  simp only [List.foldlM_cons, Builtin.min2, Sem.run_bind, Sem.run_pure, Result.andThen_ok]
  exact ih.1
def builtinL (P : Program) (b : Builtin) (ts : Array TypeId) (args : List Value) : Option Value :=
 match b, args with
 | .max, .int k x :: r => maxL k x r
 | .min, .int k x :: r => minL k x r
 | .len, [.string s] => match ts.toList[0]? with
  | some t => match pv P (underlying t) with
   | some .string => some (goInt s.size)
   | _ => none
  | none => none
 | .len, [.slice (some ⟨_, _, none⟩) n _] => match ts.toList[0]? with
  | some t => match pv P (underlying t) with
   | some (.slice _) => some (goInt n)
   | _ => none
  | none => none
 | _, _ => none
theorem builtinL_run {P : Program} {w : World} {β : Nat → Pl} {b : Builtin} {ts : Array TypeId} {ty : TypeId} {cs : Array Bool} {args : List Value} {v : Value} (h : builtinL P b ts args = some v) :
  (builtin b ts ty cs (args.map (rl β)).toArray).run P w = .ok (.value v) w ∧ plain v = true := by
 have ints : ∀ (l : List Value) (k : IntKind) (x : Int) (v : Value), (maxL k x l = some v ∨ minL k x l = some v) → l.map (rl β) = l := by
  intro l
  induction l with
  | nil => intro k x v h; rfl
  | cons y r ih =>
   intro k x v h
   cases y with
   | int k' y =>
    have hr : r.map (rl β) = r := by
     rcases h with h | h
     ·exact ih _ _ _ (Or.inl (by simpa [maxL] using h))
     ·exact ih _ _ _ (Or.inr (by simpa [minL] using h))
    simp [rl, hr]
   | _ => rcases h with h | h <;> simp [maxL, minL] at h
 unfold builtinL at h
 split at h
 ·rename_i k x r
  have := maxL_run (P := P) (w := w) r k x v h
  have hr := ints _ _ _ _ (Or.inl h)
  refine ⟨?_, this.2⟩
  simp only [builtin, Builtin.max_, List.map_cons, hr, rl, Sem.run_bind, this.1, Result.andThen_ok, Sem.run_pure]
 ·rename_i k x r
  have := minL_run (P := P) (w := w) r k x v h
  have hr := ints _ _ _ _ (Or.inr h)
  refine ⟨?_, this.2⟩
  simp only [builtin, Builtin.min_, List.map_cons, hr, rl, Sem.run_bind, this.1, Result.andThen_ok, Sem.run_pure]
 ·rename_i s
  split at h
  case h_2 => simp at h
  rename_i t ht
  split at h
  case h_2 => simp at h
  rename_i hu
  simp only [Option.some.injEq] at h
  subst h
  have ht' : ts[0]? = some t := by rw [← Array.getElem?_toList]; exact ht
  refine ⟨?_, rfl⟩
  simp [builtin, Builtin.len_, ht', pv_run _ hu w, rl]
 ·rename_i bk of n c
  split at h
  case h_2 => simp at h
  rename_i t ht
  split at h
  case h_2 => simp at h
  rename_i hu
  simp only [Option.some.injEq] at h
  subst h
  have ht' : ts[0]? = some t := by rw [← Array.getElem?_toList]; exact ht
  refine ⟨?_, rfl⟩
  simp [builtin, Builtin.len_, ht', pv_run _ hu w, rl, mvS]
 ·simp at h
theorem getElem?_ext {σ bs : LH} {i : Nat} {x : Blk} (h : σ[i]? = some x) : (σ ++ bs)[i]? = some x := by
 rw [List.getElem?_append_left (List.getElem?_eq_some_iff.1 h).1]
 exact h
def emptyL (P : Program) (t : TypeId) (len : Nat) (parts : List (Nat × Operand)) : Option (TypeId × Value) :=
 match len, parts with
 | 0, [] => match pv P (underlying t) with
  | some (.slice e) => match pv P (sizeOf e), pv P (zeroValue e) with
   | some n, some z => match Nat.beq z.cells.size n && Nat.blt 0 n with
    | true => some (e, z)
    | false => none
   | _, _ => none
  | _ => none
 | _, _ => none
theorem empty_run {P : Program} {σ0 σ : LH} {W w : World} {β0 β : Nat → Pl} (hp : Hp σ0 W β0 β σ w) {t e : TypeId} {len : Nat} {parts : Array (Nat × Operand)} {z : Value} (h : emptyL P t len parts.toList = some (e, z)) (f : Nat × Operand → Nat × Value) :
  ∃ β' w', (∀ i, i < σ.length → β' i = β i) ∧ Hp σ0 W β0 β' (σ ++ [(lstC [] true z, e)]) w' ∧ Fresh σ.length (σ.length + 1) β' w w' ∧ (Instr.buildSlice t len (parts.map f)).run P w = .ok (rl β' (hdrV σ.length)) w' := by
 unfold emptyL at h
 split at h
 case h_2 => simp at h
 rename_i hpt
 have hparts : parts = #[] := by apply Array.ext'; simpa using hpt
 subst hparts
 split at h
 case h_2 => simp at h
 rename_i e' hu
 split at h
 case h_2 => simp at h
 rename_i n z' hs hz
 split at h
 case h_2 => simp at h
 rename_i hc
 simp only [Bool.and_eq_true] at hc
 simp only [Option.some.injEq, Prod.mk.injEq] at h
 obtain ⟨rfl, rfl⟩ := h
 have hn := Nat.eq_of_beq_eq_true hc.1
 have h0 : 0 < n := Nat.le_of_ble_eq_true hc.2
 have hbz := hp.below.size
 have key := hp.newAt (w' := { w with heap := w.heap.push (.cells #[] e' (0, 0)) }) (lstC [] true z') e' ⟨some w.heap.size, some ⟨w.heap.size, 0, none⟩, 0, 0, n⟩
  (fun i hi _ k hk => by
   have := hp.up i hi k hk
   show (w.heap.push _)[k]? = _
   rw [Array.getElem?_push, if_neg (by omega)]) (by simp) (hp.below.trans ⟨rfl, rfl, rfl, by simp, fun k hk => by
   show (w.heap.push _)[k]? = _
   rw [Array.getElem?_push, if_neg (by omega)]⟩) (fun hh => by simp [isN, lstC] at hh) (fun rows g z'' he => by
   simp only [lstC, Array.mk.injEq, List.cons.injEq, Value.tuple.injEq, Value.bool.injEq, and_true] at he
   obtain ⟨rfl, rfl, rfl⟩ := he
   refine ⟨rfl, fun r hr => by simp [inOrder] at hr, h0, Nat.le_refl _, hn, .inr ⟨w.heap.size, 0, #[], e', (0, 0), rfl, rfl, by simp, by simp [inOrder, flat]⟩, fun _ => ?_⟩
   refine ⟨by simp [inOrder, flat], .inr ⟨w.heap.size, 0, #[], rfl, Nat.zero_le _, by simp, Nat.le_refl _, by simp [maxLen], by simp, by simp [inOrder, flat]⟩⟩) (fun k hk => by
   simp only [Option.some.injEq] at hk
   subst hk
   exact ⟨hbz, by simp, fun i hi _ he => by have := hp.up i hi _ he; omega⟩)
 obtain ⟨β', h1, h2, h3⟩ := key
 refine ⟨β', _, h1, h3, Fresh.push _ (by rw [h2]), ?_⟩
 have hrl : rl β' (hdrV σ.length) = .slice (some ⟨w.heap.size, 0, none⟩) 0 0 := by simp [hdrV, rl, mvS, h2]
 rw [hrl]
 simp [Instr.buildSlice, Sem.run_bind, pv_run _ hu w, pv_run _ hs w, Instr.fill, Go.newRow, newObj, Sem.run]
 have : Array.map (fun x => (default : Value)) (Array.range 0) = #[] := by simp
 rw [this]
theorem listB_run {R : Type} {P : Program} {σ0 σ : LH} {W w : World} {β0 β : Nat → Pl} (hp : Hp σ0 W β0 β σ w) {b : Builtin} {ts : Array TypeId} {ty : TypeId} {args : List Value} {K : Value → LH → Bool → Option R} {r : R}
  (h : listB P σ0.length b ts args σ K = some r) :
  ∃ v σ' b' β' w', (∀ i, i < σ.length → β' i = β i) ∧ σ.length ≤ σ'.length ∧ (b' = true → (∀ i, i < σ.length → σ'[i]? = σ[i]?) ∧ Fresh σ.length σ'.length β' w w') ∧ inn σ'.length v = true ∧ Hp σ0 W β0 β' σ' w' ∧ K v σ' b' = some r ∧
   ∀ cs, (builtin b ts ty cs (args.map (rl β)).toArray).run P w = .ok (.value (rl β' v)) w' := by
 unfold listB at h
 split at h
 ·rename_i bk of sp n1 n2
  split at h
  case h_2 => simp at h
  rename_i rows g z e t hσ ht
  split at h
  case h_2 => simp at h
  rename_i hu
  have L := hp.lies.lst bk rows g z _ hσ
  have hlen := L.len
  rw [inOrder_len] at hlen
  refine ⟨_, _, _, β, w, fun _ _ => rfl, Nat.le_refl _, fun _ => ⟨fun _ _ => rfl, Fresh.refl _ _ _⟩, plain_inn rfl, hp, h, fun cs => ?_⟩
  have ht' : ts[0]? = some t := by rw [← Array.getElem?_toList]; exact ht
  have hrl : rl β (.slice (some ⟨bk, of, some sp⟩) n1 n2) = .slice (shA (β bk) of) (rows.length - of) ((β bk).hc - of) := by simp [rl, mvS, hlen]
  simp only [List.map_cons, List.map_nil, hrl]
  simp [builtin, Builtin.len_, ht', pv_run _ hu w, rl, goInt]
 ·rename_i bk sp n1 n2 b2 n4
  split at h
  case h_2 => simp at h
  rename_i rows z e c2 e2 hσ h2
  split at h
  case h_2 => simp at h
  rename_i t t' hts
  split at h
  case h_2 => simp at h
  rename_i e' hu
  split at h
  case h_2 => simp at h
  rename_i i hi
  split at h
  case h_2 => simp at h
  rename_i z0 hz
  split at h
  case h_2 => simp at h
  rename_i hc
  simp only [Bool.and_eq_true] at hc
  obtain ⟨⟨⟨⟨⟨c1, c3⟩, c4⟩, c5, c6⟩, ⟨c7, c8⟩, c9⟩, c10⟩ := hc
  have q1 := Nat.eq_of_beq_eq_true c1
  have q2 := Nat.eq_of_beq_eq_true c3
  subst q1
  subst q2
  cases hd : decide ((rows.length + 1) * i.bytes ≤ 140737488355328) with
  | false => rw [hd] at h; simp at h
  | true =>
  rw [hd] at h
  simp only [cond_true] at h
  obtain ⟨β', w', h3, h4, h5⟩ := append_run (ty := ty) (n2 := n1) (n3 := n2) (n4 := n4) (sp := sp) hp hσ h2 hu hi hz (Nat.le_of_ble_eq_true c4) (Nat.eq_of_beq_eq_true c5) (Nat.eq_of_beq_eq_true c6) (Nat.le_of_ble_eq_true c7) c9 c10 (of_decide_eq_true hd) (Nat.le_of_ble_eq_true c8)
  refine ⟨_, _, false, β', w', h3, by simp, (fun hh => by cases hh), by simp [hdrV, inn], h4, h, fun cs => ?_⟩
  have hts' : ts = #[t, t] := by apply Array.ext'; simpa using hts
  subst hts'
  simp only [List.map_cons, List.map_nil]
  simp only [builtin, Sem.run_bind]
  rw [h5]
  rfl
 ·rename_i b2 bk sp n1 n2
  split at h
  case h_2 => simp at h
  rename_i rows g z e c2 e2 hσ h2
  split at h
  case h_2 => simp at h
  rename_i t t' hts
  split at h
  case h_2 => simp at h
  rename_i e' hu
  split at h
  case h_2 => simp at h
  rename_i i hi
  split at h
  case h_2 => simp at h
  rename_i z0 hz
  split at h
  case h_2 => simp at h
  rename_i hc
  simp only [Bool.and_eq_true] at hc
  obtain ⟨⟨⟨⟨⟨⟨c1, c3⟩, c0⟩, c4⟩, c5, c6⟩, ⟨c7, c8⟩, c9⟩, c10⟩ := hc
  have q3 := Nat.eq_of_beq_eq_true c0
  subst q3
  have q1 := Nat.eq_of_beq_eq_true c1
  have q2 := Nat.eq_of_beq_eq_true c3
  subst q1
  subst q2
  cases hd : decide ((rows.length + 1) * i.bytes ≤ 140737488355328) with
  | false => rw [hd] at h; simp at h
  | true =>
  rw [hd] at h
  simp only [cond_true] at h
  obtain ⟨β', w', h3, h4, h5⟩ := prepend_run (ty := ty) (n2 := n1) (n3 := n2) (sp := sp) hp hσ h2 hu hi hz (Nat.le_of_ble_eq_true c4) (Nat.eq_of_beq_eq_true c5) (Nat.eq_of_beq_eq_true c6) (Nat.le_of_ble_eq_true c7) c9 c10 (of_decide_eq_true hd) (Nat.le_of_ble_eq_true c8)
  refine ⟨_, _, false, β', w', h3, by simp, (fun hh => by cases hh), by simp [hdrV, inn], h4, h, fun cs => ?_⟩
  have hts' : ts = #[t, t] := by apply Array.ext'; simpa using hts
  subst hts'
  simp only [List.map_cons, List.map_nil]
  simp only [builtin, Sem.run_bind]
  rw [h5]
  rfl
 ·simp at h
theorem loadS_val {R : Type} {P : Program} {t : TypeId} {p : Value} {σ : LH} {K : Value → Option R} {r : R} (h : loadS P t p σ K = some r) :
  ∃ v, K v = some r ∧ ∀ (bs : LH) (S : Type) (K' : Value → Option S), loadL P t p (σ ++ bs) = none ∧ loadS P t p (σ ++ bs) K' = K' v := by
 unfold loadS at h
 (repeat' split at h) <;> first | (simp at h; done) | skip
 rename_i b i sp _ rows g z e hσ _ _ ag n hag hsz _ hc
 cases hd : decide (i < rows.length) with
 | false => rw [hd] at h; simp at h
 | true =>
 rw [hd] at h
 refine ⟨_, h, fun bs S K' => ⟨rfl, ?_⟩⟩
 unfold loadS
 simp only [getElem?_ext (bs := bs) hσ, hag, hsz, hc, hd, cond_true]
theorem indexS_val {R : Type} {P : Program} {t : TypeId} {p i : Value} {σ : LH} {K : Value → Option R} {r : R} (h : indexS P t p i σ K = some r) :
  isHdr p = true ∧ ∃ v, K v = some r ∧ ∀ (bs : LH) (S : Type) (K' : Value → Option S), indexS P t p i (σ ++ bs) K' = K' v := by
 unfold indexS at h
 (repeat' split at h) <;> first | (simp at h; done) | skip
 rename_i b of sp _ _ _ j _ rows g z e hσ _ el hu _ n hsz _ hc
 cases hd : decide (0 ≤ j ∧ j < ((rows.length - of : Nat) : Int)) with
 | false => rw [hd] at h; simp at h
 | true =>
 rw [hd] at h
 refine ⟨rfl, _, h, fun bs S K' => ?_⟩
 unfold indexS
 simp only [getElem?_ext (bs := bs) hσ, hu, hsz, hc, hd, cond_true]
theorem sliceS_val {R : Type} {P : Program} {t : TypeId} {p i : Value} {σ : LH} {K : Value → Option R} {r : R} (h : sliceS P t p i σ K = some r) :
  ∃ v, K v = some r ∧ ∀ (bs : LH) (S : Type) (K' : Value → Option S), sliceS P t p i (σ ++ bs) K' = K' v := by
 unfold sliceS at h
 (repeat' split at h) <;> first | (simp at h; done) | skip
 rename_i b sp _ _ _ j _ rows g z e hσ _ el hu _ n hsz _ hc
 cases hd : decide (0 ≤ j ∧ j < (rows.length : Int)) with
 | false => rw [hd] at h; simp at h
 | true =>
 rw [hd] at h
 refine ⟨_, h, fun bs S K' => ?_⟩
 unfold sliceS
 simp only [getElem?_ext (bs := bs) hσ, hu, hsz, hc, hd, cond_true]
theorem listB_val {R : Type} {P : Program} {m : Nat} {b : Builtin} {ts : Array TypeId} {args : List Value} {σ : LH} {K : Value → LH → Bool → Option R} {r : R} (h : listB P m b ts args σ K = some r) :
  args.any isHdr = true ∧ ∃ v σ' b', K v σ' b' = some r ∧ (∀ (S : Type) (K' : Value → LH → Bool → Option S), listB P m b ts args σ K' = K' v σ' b') ∧
   (b ≠ .append → ∀ (bs : LH) (S : Type) (K' : Value → LH → Bool → Option S), listB P m b ts args (σ ++ bs) K' = K' v (σ ++ bs) true) := by
 unfold listB at h
 split at h
 ·(repeat' split at h) <;> first | (simp at h; done) | skip
  rename_i bk _ sp _ _ _ _ rows g z e t hσ ht _ _ hu
  refine ⟨rfl, _, _, _, h, fun S K' => ?_, fun _ bs S K' => ?_⟩
  ·unfold listB
   simp only [hσ, ht, hu]
  ·unfold listB
   simp only [getElem?_ext (bs := bs) hσ, ht, hu]
 ·rename_i bk of sp n1 n2 b2 n4
  split at h
  case h_2 => simp at h
  rename_i rows z e c2 e2 hσ h2
  split at h
  case h_2 => simp at h
  rename_i t t' hts
  split at h
  case h_2 => simp at h
  rename_i e' hu
  split at h
  case h_2 => simp at h
  rename_i i hi
  split at h
  case h_2 => simp at h
  rename_i z0 hz
  split at h
  case h_2 => simp at h
  rename_i hc
  cases hd : decide ((rows.length + 1) * i.bytes ≤ 140737488355328) with
  | false => rw [hd] at h; simp at h
  | true =>
  rw [hd] at h
  refine ⟨rfl, _, _, _, h, fun S K' => ?_, fun hh => absurd rfl hh⟩
  unfold listB
  simp only [hσ, h2, hts, hu, hi, hz, hc, hd, cond_true]
 ·rename_i b2 bk sp n1 n2
  split at h
  case h_2 => simp at h
  rename_i rows g z e c2 e2 hσ h2
  split at h
  case h_2 => simp at h
  rename_i t t' hts
  split at h
  case h_2 => simp at h
  rename_i e' hu
  split at h
  case h_2 => simp at h
  rename_i i hi
  split at h
  case h_2 => simp at h
  rename_i z0 hz
  split at h
  case h_2 => simp at h
  rename_i hc
  cases hd : decide ((rows.length + 1) * i.bytes ≤ 140737488355328) with
  | false => rw [hd] at h; simp at h
  | true =>
  rw [hd] at h
  refine ⟨by simp [isHdr], _, _, _, h, fun S K' => ?_, fun hh => absurd rfl hh⟩
  unfold listB
  simp only [hσ, h2, hts, hu, hi, hz, hc, hd, cond_true]
 ·simp at h
structure Prem where
 T : World → Prop
 stab : ∀ w w', T w → Below w.heap.size w w' → T w'
def Prem.none : Prem := ⟨fun _ => True, fun _ _ _ _ => trivial⟩
def GivesU (P : Program) (T : Prem) (g : FuncId) (args : List Value) (σ : LH) (v : Value) (σ' : LH) : Prop :=
 (∀ as w, (callFunc g as).run P w = .ok (.enter g as) w) ∧
 ∀ (β : Nat → Pl) (w : World), T.T w → Lies β σ w → Within β σ w → (∀ x ∈ args, inn σ.length x = true) →
  Calls P g (args.map (rl β)).toArray w fun e w' => ∃ β', e = .returned (rl β' v) ∧ inn σ'.length v = true ∧ Hp σ w β β' σ' w'
abbrev Gives (P : Program) (g : FuncId) (args : List Value) (σ : LH) (v : Value) (σ' : LH) : Prop := GivesU P Prem.none g args σ v σ'
def GivesW (P : Program) (W : World) (m : Nat) (g : FuncId) (args : List Value) (σ : LH) (v : Value) (σ' : LH) (kept : Bool) : Prop :=
 (∀ as w, (callFunc g as).run P w = .ok (.enter g as) w) ∧
 ∀ (σ0 : LH) (β0 β : Nat → Pl) (w : World), σ0.length = m → Hp σ0 W β0 β σ w → (∀ x ∈ args, inn σ.length x = true) →
  Calls P g (args.map (rl β)).toArray w fun e w' => ∃ β', (∀ i, i < σ.length → β' i = β i) ∧ σ.length ≤ σ'.length ∧ (kept = true → (∀ i, i < σ.length → σ'[i]? = σ[i]?) ∧ Fresh σ.length σ'.length β' w w') ∧
   e = .returned (rl β' v) ∧ inn σ'.length v = true ∧ Hp σ0 W β0 β' σ' w'
def Ext (P : Program) (g : FuncId) (args : List Value) (v : Value) : Prop :=
 args.all plain = true ∧ plain v = true ∧ ∀ w, (callFunc g args.toArray).run P w = .ok (.value v) w
theorem GivesU.wide {P : Program} {T : Prem} {W : World} {m : Nat} {g : FuncId} {args : List Value} {σ σ' : LH} {v : Value} (h : GivesU P T g args σ v σ') (hT : T.T W) : GivesW P W m g args σ v σ' true := by
 refine ⟨h.1, fun σ0 β0 β w _ hp ha => ?_⟩
 refine (h.2 β w (T.stab _ _ hT hp.below) hp.lies hp.up ha).mono ?_
 rintro e w' ⟨β', rfl, hv, hp'⟩
 exact ⟨β', hp'.ext, hp'.mle, fun _ => ⟨hp'.pre, hp'.below, hp'.own⟩, rfl, hv, hp.call hp'⟩
structure Tab where
 f : ∀ (R : Type), Nat → FuncId → List Value → LH → (Value → LH → Bool → Option R) → Option R
 free : FuncId → Bool
structure Tab.Ok (P : Program) (Φ : Tab) (W : World) : Prop where
 ok : ∀ (R : Type) m g args σ (K : Value → LH → Bool → Option R) r, Φ.f R m g args σ K = some r →
  ∃ v σ' b, K v σ' b = some r ∧ (∀ (S : Type) (K' : Value → LH → Bool → Option S), Φ.f S m g args σ K' = K' v σ' b) ∧ (GivesW P W m g args σ v σ' b ∨ (σ' = σ ∧ Ext P g args v))
 free : ∀ (R : Type) m g args σ (K : Value → LH → Bool → Option R) r, Φ.free g = true → Φ.f R m g args σ K = some r →
  ∃ v, ∀ (bs : LH) (S : Type) (K' : Value → LH → Bool → Option S), Φ.f S m g args (σ ++ bs) K' = K' v (σ ++ bs) true
def ok0 : Value → Bool
 | .func _ a b => a.isEmpty && b.isEmpty
 | .tuple vs => vs.isEmpty
 | _ => true
theorem rl_ok0 {β : Nat → Pl} {v : Value} (h : ok0 v = true) : rl β v = rl0 β v := by
 cases v with
 | func fn a b =>
  simp only [ok0, Bool.and_eq_true, Array.isEmpty_iff] at h
  obtain ⟨rfl, rfl⟩ := h
  simp [rl, rl0]
 | pointer a => cases a <;> rfl
 | slice a l c => cases a <;> rfl
 | tuple vs =>
  simp only [ok0, Array.isEmpty_iff] at h
  subst h
  simp [rl, rl0]
 | _ => rfl
theorem inn_ok0 {n : Nat} {v : Value} (h : ok0 v = true) (hi : inn n v = true) : sc0 n v = true := by
 cases v with
 | func fn a b => rfl
 | pointer a => cases a with
  | none => rfl
  | some a => exact hi
 | slice a l c => cases a with
  | none => rfl
  | some a => exact hi
 | _ => rfl
def sliceO {R : Type} (P : Program) (t : TypeId) (x : Operand) (lo hi mx : Option Operand) (tm : Env) (σ : LH) (K : Value → Option R) : Option R :=
 match lo, hi, mx with
 | some lo, none, none => sliceS P t (ev tm x) (ev tm lo) σ K
 | _, _, _ => none
def step {R : Type} (P : Program) (Φ : Tab) (m : Nat) (o : Oper) (tm : Env) (σ : LH) (K : Value → LH → Bool → Option R) : Option R :=
 match o.op.operands.toList.all (evOk tm) with
 | false => none
 | true =>
 match o.op with
 | .move x => K (ev tm x) σ true
 | .assign x => K (ev tm x) σ true
 | .pick c a b => match ev tm c with
  | .bool t => (match t with | true => K (ev tm a) σ true | false => K (ev tm b) σ true)
  | _ => none
 | .box t x => match cellsOk (ev tm x) with
  | true => K (.pointer (some ⟨σ.length, 0, none⟩)) (σ ++ [((ev tm x).cells, t)]) true
  | false => none
 | .alloc t => match pv P (zeroValue t) with
  | some z => match cellsOk z && plain z with
   | true => K (.pointer (some ⟨σ.length, 0, none⟩)) (σ ++ [(z.cells, t)]) true
   | false => none
  | none => none
 | .load t x => match loadL P t (ev tm x) σ with | some v => K v σ true | none => loadS P t (ev tm x) σ fun v => K v σ true
 | .store t x y => match storeL P m t (ev tm x) (ev tm y) σ with | some σ' => K undef σ' false | none => storeS P m t (ev tm x) (ev tm y) σ fun σ' => K undef σ' false
 | .makeSlice t x y => makeL P t (ev tm x) (ev tm y) σ K
 | .fieldAddr s x f => match fieldL P s (ev tm x) f with | some v => K v σ true | none => none
 | .indexAddr t x i => match indexL P t (ev tm x) (ev tm i) with | some v => K v σ true | none => indexS P t (ev tm x) (ev tm i) σ fun v => K v σ true
 | .nilCheck x => match ev tm x with
  | .pointer (some a) => K (.pointer (some a)) σ true
  | .func (.func g) a b => K (.func (.func g) a b) σ true
  | _ => none
 | .makeFunc fn a b => match (a.toList.map (ev tm)).all ok0 && (b.toList.map (ev tm)).all ok0 with
  | true => K (.func fn (a.toList.map (ev tm)).toArray (b.toList.map (ev tm)).toArray) σ true
  | false => none
 | .build t parts => match parts.toList.all (fun p => plain (ev tm p.2)) with
  | true => (match P.built t (parts.toList.map fun p => (p.1, ev tm p.2)) with
   | some cells => K (.agg cells) σ true
   | none => none)
  | false => none
 | .buildSlice t len parts => match parts.toList.all (fun p => plain (ev tm p.2)) with
  | true => (match rowL P t len (parts.toList.map fun p => (p.1, ev tm p.2)) with
   | some (e, cells) => (match cells.toList.all (fun x => plain x && x.oneCell') with
    | true => K (.slice (some ⟨σ.length, 0, none⟩) len len) (σ ++ [(cells, e)]) true
    | false => none)
   | none => (match emptyL P t len parts.toList with
    | some (e, z) => K (hdrV σ.length) (σ ++ [(lstC [] true z, e)]) true
    | none => none))
  | false => none
 | .binOp op t x y _ => binL P o tm op t (ev tm x) (ev tm y) fun v => K v σ true
 | .call ⟨.value f, args, _⟩ => match ev tm f with
  | .func (.func g) first cap => (match first.toList.all ok0 && cap.toList.all ok0 with
   | true => Φ.f R m g (first.toList ++ args.toList.map (ev tm) ++ cap.toList) σ K
   | false => none)
  | _ => none
 | .call ⟨.builtin b, args, ts⟩ => match builtinL P b ts (args.toList.map (ev tm)) with | some v => K v σ true | none => listB P m b ts (args.toList.map (ev tm)) σ K
 | .unOp .. => match gen P o tm with | some v => K v σ true | none => none
 | .convert s d x => match gen P o tm with | some v => K v σ true | none => convS P s d (ev tm x) σ fun v => K v σ true
 | .field .. => match gen P o tm with | some v => K v σ true | none => none
 | .index .. => match gen P o tm with | some v => K v σ true | none => none
 | .extract x i => match gen P o tm with | some v => K v σ true | none => (match ev tm x with
  | .tuple vs => (match vs.toList[i]? with
   | some v => (match ok0 v with
    | true => K v σ true
    | false => none)
   | none => none)
  | _ => none)
 | .slice t x lo hi mx => sliceO P t x lo hi mx tm σ fun v => K v σ true
 | _ => none
theorem step_runF {R : Type} {P : Program} {Φ : Tab} {W : World} (hΦ : Φ.Ok P W) {σ0 σ : LH} {w : World} {β0 β : Nat → Pl} {n : Nat} {o : Oper} {tm : Env} {a : Act} {K : Value → LH → Bool → Option R} {r : R}
  (hx : ∀ x ∈ o.op.operands, evOk tm x = true → a.eval x = rl β (ev tm x)) (hi : ∀ x ∈ o.op.operands, evOk tm x = true → inn σ.length (ev tm x) = true) (hp : Hp σ0 W β0 β σ w) (h : step P Φ σ0.length o tm σ K = some r)
  {next : Act → World → Prop} {Q : Exit → Act → World → Prop}
  (hk : ∀ v σ' b β' w', (∀ i, i < σ.length → β' i = β i) → σ.length ≤ σ'.length → (b = true → (∀ i, i < σ.length → σ'[i]? = σ[i]?) ∧ Fresh σ.length σ'.length β' w w') → inn σ'.length v = true → Hp σ0 W β0 β' σ' w' → K v σ' b = some r → next (a.put o.dst (rl β' v)) w') :
  o.wp P a w next Q := by
 unfold step at h
 split at h
 ·simp at h
 rename_i hall
 simp only [List.all_eq_true] at hall
 have hx' : ∀ x ∈ o.op.operands, a.eval x = rl β (ev tm x) := fun x hxo => hx x hxo (hall x (by simpa using hxo))
 have hin : ∀ x ∈ o.op.operands, inn σ.length (ev tm x) = true := fun x hxo => hi x hxo (hall x (by simpa using hxo))
 have same : ∀ v, inn σ.length v = true → K v σ true = some r → next (a.put o.dst (rl β v)) w := fun v hv hkv => hk v σ true β w (fun _ _ => rfl) (Nat.le_refl _) (fun _ => ⟨fun _ _ => rfl, Fresh.refl _ _ _⟩) hv hp hkv
 have value : ∀ v, inn σ.length v = true → K v σ true = some r → (execOp a.eval o).run P w = .ok (.value (rl β v)) w → o.wp P a w next Q := fun v hv hkv hrun => by
  unfold Oper.wp
  rw [hrun]
  exact same v hv hkv
 have pvalue : ∀ v, plain v = true → K v σ true = some r → (execOp a.eval o).run P w = .ok (.value v) w → o.wp P a w next Q := fun v hv hkv hrun =>
  value v (plain_inn hv) hkv (by rw [rl_plain hv]; exact hrun)
 have genw : (∀ cs b, o.op ≠ .select cs b) → (match gen P o tm with | some v => K v σ true | none => none) = some r → o.wp P a w next Q := fun hs hg => by
  split at hg
  case h_2 => simp at hg
  rename_i v hv
  obtain ⟨h1, h2⟩ := gen_run (n := n) hs hx' hv
  exact pvalue v h1 hg (h2 w)
 split at h
 ·rename_i x ho
  refine value _ (hin x (by simp [ho, Op.operands])) h ?_
  simp [execOp, ho, hx' x (by simp [ho, Op.operands])]
 ·rename_i x ho
  refine value _ (hin x (by simp [ho, Op.operands])) h ?_
  simp [execOp, ho, hx' x (by simp [ho, Op.operands])]
 ·rename_i c x y ho
  have hc := hx' c (by simp [ho, Op.operands])
  split at h
  case h_2 => simp at h
  rename_i t ht
  rw [ht] at hc
  split at h
  ·refine value _ (hin x (by simp [ho, Op.operands])) h ?_
   simp [execOp, ho, hc, rl, asBool, hx' x (by simp [ho, Op.operands])]
  ·refine value _ (hin y (by simp [ho, Op.operands])) h ?_
   simp [execOp, ho, hc, rl, asBool, hx' y (by simp [ho, Op.operands])]
 ·rename_i t x ho
  split at h
  case h_2 => simp at h
  rename_i hc
  have hxx := hx' x (by simp [ho, Op.operands])
  obtain ⟨hcr, hcs⟩ := cells_rl (β := β) hc (hin x (by simp [ho, Op.operands]))
  obtain ⟨β', h1, h2, h3⟩ := hp.new (ev tm x).cells t hcs
  have hnext := hk _ _ _ β' _ h1 (by simp) (fun _ => ⟨fun i hi => List.getElem?_append_left hi, by rw [List.length_append]; exact Fresh.push _ h2⟩) (by simp [inn]) h3 h
  unfold Oper.wp
  have hrun : (execOp a.eval o).run P w = .ok (.value (rl β' (.pointer (some ⟨σ.length, 0, none⟩)))) { w with heap := w.heap.push (.cells ((ev tm x).cells.map (rl β)) t (0, 0)) } := by
   have hrl : rl β' (.pointer (some ⟨σ.length, 0, none⟩)) = .pointer (some ⟨w.heap.size, 0, none⟩) := by simp [rl, mv, Pl.blk, h2]
   rw [hrl]
   simp [execOp, ho, hxx, Instr.box, newVar, Go.newRow, newObj, Sem.run, hcr]
  rw [hrun]
  exact hnext
 ·rename_i t ho
  split at h
  case h_2 => simp at h
  rename_i z hz
  split at h
  case h_2 => simp at h
  rename_i hc
  simp only [Bool.and_eq_true] at hc
  obtain ⟨hcr, hcs⟩ := cells_rl (β := β) hc.1 (plain_inn (n := σ.length) hc.2)
  rw [rl_plain hc.2] at hcr
  obtain ⟨β', h1, h2, h3⟩ := hp.new z.cells t hcs
  have hnext := hk _ _ _ β' _ h1 (by simp) (fun _ => ⟨fun i hi => List.getElem?_append_left hi, by rw [List.length_append]; exact Fresh.push _ h2⟩) (by simp [inn]) h3 h
  unfold Oper.wp
  have hrun : (execOp a.eval o).run P w = .ok (.value (rl β' (.pointer (some ⟨σ.length, 0, none⟩)))) { w with heap := w.heap.push (.cells (z.cells.map (rl β)) t (0, 0)) } := by
   simp [execOp, ho, Instr.alloc, pv_run _ hz w, newVar, Go.newRow, newObj, Sem.run, ← hcr, rl, mv, Pl.blk, h2]
  rw [hrun]
  exact hnext
 ·rename_i t x ho
  split at h
  ·rename_i v hv
   obtain ⟨h1, h2⟩ := loadL_run hp.lies hv
   refine value v h2 h ?_
   simp [execOp, ho, hx' x (by simp [ho, Op.operands]), h1]
  ·obtain ⟨v, h1, h2, h3⟩ := loadS_run hp.lies h
   refine pvalue v h2 h1 ?_
   simp [execOp, ho, hx' x (by simp [ho, Op.operands]), h3]
 ·rename_i t x y ho
  split at h
  ·rename_i σ' hv
   obtain ⟨w', h1, h2, h3⟩ := storeL_run hp (hin y (by simp [ho, Op.operands])) hv
   have hnext := hk undef σ' false β w' (fun _ _ => rfl) (by omega) (fun hh => by cases hh) rfl h2 h
   unfold Oper.wp
   have hrun : (execOp a.eval o).run P w = .ok .skip w' := by
    simp [execOp, ho, hx' x (by simp [ho, Op.operands]), hx' y (by simp [ho, Op.operands]), h1]
   rw [hrun]
   rw [rl_undef] at hnext
   exact hnext
  ·obtain ⟨σ', w', h1, h2, h3, h4⟩ := storeS_run hp h
   have hnext := hk undef σ' false β w' (fun _ _ => rfl) (by omega) (fun hh => by cases hh) rfl h3 h1
   unfold Oper.wp
   have hrun : (execOp a.eval o).run P w = .ok .skip w' := by
    simp [execOp, ho, hx' x (by simp [ho, Op.operands]), hx' y (by simp [ho, Op.operands]), h4]
   rw [hrun]
   rw [rl_undef] at hnext
   exact hnext
 ·rename_i t x y ho
  obtain ⟨v, σ', β', w', h1, h2, h3, h4, h5, h6, h7⟩ := makeL_run hp h
  have hnext := hk v σ' true β' w' h1 h2 (fun _ => h3) h4 h5 h6
  unfold Oper.wp
  have hrun : (execOp a.eval o).run P w = .ok (.value (rl β' v)) w' := by
   simp [execOp, ho, hx' x (by simp [ho, Op.operands]), hx' y (by simp [ho, Op.operands]), h7]
  rw [hrun]
  exact hnext
 ·rename_i s x f ho
  split at h
  case h_2 => simp at h
  rename_i v hv
  obtain ⟨h1, h2⟩ := fieldL_run (β := β) (hin x (by simp [ho, Op.operands])) hv
  refine value v h2 h ?_
  simp [execOp, ho, hx' x (by simp [ho, Op.operands]), h1 w]
 ·rename_i s x i ho
  split at h
  ·rename_i v hv
   obtain ⟨h1, h2⟩ := indexL_run (β := β) (hin x (by simp [ho, Op.operands])) hv
   refine value v h2 h ?_
   simp [execOp, ho, hx' x (by simp [ho, Op.operands]), hx' i (by simp [ho, Op.operands]), h1 w]
  ·obtain ⟨v, h1, h2, h3⟩ := indexS_run hp.lies h
   refine value v h2 h1 ?_
   simp [execOp, ho, hx' x (by simp [ho, Op.operands]), hx' i (by simp [ho, Op.operands]), h3]
 ·rename_i x ho
  have hxx := hx' x (by simp [ho, Op.operands])
  have hii := hin x (by simp [ho, Op.operands])
  split at h
  ·rename_i b hb
   rw [hb] at hxx hii
   refine value _ hii h ?_
   simp [execOp, ho, hxx, rl]
  ·rename_i g u v hb
   rw [hb] at hxx hii
   refine value _ hii h ?_
   simp [execOp, ho, hxx, rl]
  ·simp at h
 ·rename_i fn u v ho
  split at h
  case h_2 => simp at h
  rename_i hok
  simp only [Bool.and_eq_true, List.all_eq_true, List.mem_map, forall_exists_index, and_imp, forall_apply_eq_imp_iff₂] at hok
  have hu : u.map a.eval = ((u.toList.map (ev tm)).toArray).map (rl0 β) := by
   apply Array.ext'
   simp only [Array.toList_map, List.map_map]
   refine List.map_congr_left fun x hxu => ?_
   have hxu' := Array.mem_toList_iff.1 hxu
   rw [hx' x (by simp [ho, Op.operands, hxu']), rl_ok0 (hok.1 x hxu)]
   rfl
  have hv : v.map a.eval = ((v.toList.map (ev tm)).toArray).map (rl0 β) := by
   apply Array.ext'
   simp only [Array.toList_map, List.map_map]
   refine List.map_congr_left fun x hxu => ?_
   have hxu' := Array.mem_toList_iff.1 hxu
   rw [hx' x (by simp [ho, Op.operands, hxu']), rl_ok0 (hok.2 x hxu)]
   rfl
  refine value _ ?_ h ?_
  ·simp only [inn, Bool.and_eq_true, List.all_eq_true]
   refine ⟨fun x hxu => ?_, fun x hxu => ?_⟩
   ·simp only [List.mem_map] at hxu
    obtain ⟨y, hy, rfl⟩ := hxu
    have hy' := Array.mem_toList_iff.1 hy
    exact inn_ok0 (hok.1 y hy) (hin y (by simp [ho, Op.operands, hy']))
   ·simp only [List.mem_map] at hxu
    obtain ⟨y, hy, rfl⟩ := hxu
    have hy' := Array.mem_toList_iff.1 hy
    exact inn_ok0 (hok.2 y hy) (hin y (by simp [ho, Op.operands, hy']))
  ·simp only [execOp, ho, Instr.makeFunc, hu, hv, rl]
   rfl
 ·rename_i t parts ho
  split at h
  case h_2 => simp at h
  rename_i hok
  simp only [List.all_eq_true] at hok
  split at h
  case h_2 => simp at h
  rename_i cells hb
  have hps : (parts.map fun (p : Nat × Operand) => (p.1, a.eval p.2)).toList = parts.toList.map fun p => (p.1, ev tm p.2) := by
   simp only [Array.toList_map]
   refine List.map_congr_left fun p hpp => ?_
   rw [hx' p.2 (by simp only [ho, Op.operands, List.mem_toArray, List.mem_map]; exact ⟨p, hpp, rfl⟩), rl_plain (hok p hpp)]
  refine pvalue (.agg cells) rfl h ?_
  have := run_build (P := P) w t (parts.map fun (p : Nat × Operand) => (p.1, a.eval p.2)) cells (by rw [hps]; exact hb)
  simp only [execOp, ho]
  simp only [Sem.run_bind]
  have this' : (Instr.build t (parts.map fun (x : Nat × Operand) => match x with | (i, x) => (i, a.eval x))).run P w = .ok (.agg cells) w := this
  rw [this']
  rfl
 ·rename_i t len parts ho
  split at h
  case h_2 => simp at h
  rename_i hok
  simp only [List.all_eq_true] at hok
  split at h
  case h_2 =>
   split at h
   case h_2 => simp at h
   rename_i e z he
   obtain ⟨β', w', h1, h2, hF, h3⟩ := empty_run hp he fun (p : Nat × Operand) => (p.1, a.eval p.2)
   have hnext := hk _ _ _ β' w' h1 (by simp) (fun _ => ⟨fun i hi => List.getElem?_append_left hi, by rw [List.length_append]; exact hF⟩) (by simp [hdrV, inn]) h2 h
   have this' : (Instr.buildSlice t len (parts.map fun (x : Nat × Operand) => match x with | (i, x) => (i, a.eval x))).run P w = .ok (rl β' (hdrV σ.length)) w' := h3
   unfold Oper.wp
   simp only [execOp, ho, Sem.run_bind]
   rw [this']
   exact hnext
  rename_i e cells hb
  split at h
  case h_2 => simp at h
  rename_i hcells
  simp only [List.all_eq_true, Bool.and_eq_true] at hcells
  have hps : (parts.map fun (p : Nat × Operand) => (p.1, a.eval p.2)).toList = parts.toList.map fun p => (p.1, ev tm p.2) := by
   simp only [Array.toList_map]
   refine List.map_congr_left fun p hpp => ?_
   rw [hx' p.2 (by simp only [ho, Op.operands, List.mem_toArray, List.mem_map]; exact ⟨p, hpp, rfl⟩), rl_plain (hok p hpp)]
  obtain ⟨β', h1, h2, h3⟩ := hp.new cells e fun v hv => ⟨plain_inn (hcells v hv).1, (hcells v hv).2⟩
  have hcr : cells.map (rl β) = cells := by
   conv => rhs; rw [← Array.map_id cells]
   exact Array.map_congr_left fun x hxc => rl_plain (hcells x (by simpa using hxc)).1
  rw [hcr] at h3
  have hnext := hk _ _ _ β' _ h1 (by simp) (fun _ => ⟨fun i hi => List.getElem?_append_left hi, by rw [List.length_append]; exact Fresh.push _ h2⟩) (by simp [inn]) h3 h
  have := rowL_run (P := P) (t := t) (len := len) (parts := parts.map fun (p : Nat × Operand) => (p.1, a.eval p.2)) (by rw [hps]; exact hb) w
  have this' : (Instr.buildSlice t len (parts.map fun (x : Nat × Operand) => match x with | (i, x) => (i, a.eval x))).run P w = .ok (.slice (some ⟨w.heap.size, 0, none⟩) len len) { w with heap := w.heap.push (.cells cells e (0, 0)) } := this
  have hrl : rl β' (.slice (some ⟨σ.length, 0, none⟩) len len) = .slice (some ⟨w.heap.size, 0, none⟩) len len := by simp [rl, mvS, Pl.blk, h2]
  rw [hrl] at hnext
  unfold Oper.wp
  simp only [execOp, ho, Sem.run_bind]
  rw [this']
  exact hnext
 ·rename_i op t x y ty ho
  obtain ⟨v, h1, h2, h3⟩ := binL_run (n := n) ho hx' h
  exact pvalue v h1 h3 (h2 w)
 ·rename_i f args ts ho
  have hf := hx' f (by simp [ho, Op.operands, Call.operands])
  have hfi := hin f (by simp [ho, Op.operands, Call.operands])
  split at h
  case h_2 => simp at h
  rename_i g first cap hv
  rw [hv] at hf hfi
  split at h
  case h_2 => simp at h
  rename_i hok
  simp only [Bool.and_eq_true, List.all_eq_true] at hok
  simp only [inn, Bool.and_eq_true, List.all_eq_true] at hfi
  have hina : ∀ x ∈ first.toList ++ args.toList.map (ev tm) ++ cap.toList, inn σ.length x = true := by
   intro x hxm
   have back : ∀ x, ok0 x = true → sc0 σ.length x = true → inn σ.length x = true := by
    intro x h1 h2
    cases x with
    | func fn u v =>
     simp only [ok0, Bool.and_eq_true, Array.isEmpty_iff] at h1
     obtain ⟨rfl, rfl⟩ := h1
     rfl
    | tuple vs =>
     simp only [ok0, Array.isEmpty_iff] at h1
     subst h1
     rfl
    | pointer a => cases a with
     | none => rfl
     | some a => exact h2
    | slice a l c => cases a with
     | none => rfl
     | some a => exact h2
    | _ => rfl
   simp only [List.mem_append, List.mem_map] at hxm
   rcases hxm with (hxm | ⟨y, hy, rfl⟩) | hxm
   ·exact back x (hok.1 x hxm) (hfi.1 x hxm)
   ·have hy' := Array.mem_toList_iff.1 hy
    exact hin y (by simp [ho, Op.operands, Call.operands, hy'])
   ·exact back x (hok.2 x hxm) (hfi.2 x hxm)
  have hargs : ((first.map (rl0 β) ++ args.map a.eval) ++ cap.map (rl0 β)) = ((first.toList ++ args.toList.map (ev tm) ++ cap.toList).map (rl β)).toArray := by
   apply Array.ext'
   simp only [Array.toList_append, Array.toList_map, List.map_append, List.map_map]
   congr 1
   ·congr 1
    ·exact List.map_congr_left fun x hxm => (rl_ok0 (hok.1 x hxm)).symm
    ·refine List.map_congr_left fun x hxm => ?_
     have hxm' := Array.mem_toList_iff.1 hxm
     exact hx' x (by simp [ho, Op.operands, Call.operands, hxm'])
   ·exact List.map_congr_left fun x hxm => (rl_ok0 (hok.2 x hxm)).symm
  have hff : a.eval f = .func (.func g) (first.map (rl0 β)) (cap.map (rl0 β)) := by rw [hf]; rfl
  have hop : ∀ w, (execOp a.eval o).run P w = (callFunc g ((first.toList ++ args.toList.map (ev tm) ++ cap.toList).map (rl β)).toArray).run P w := by
   intro w
   rw [← hargs]
   simp only [execOp, ho, resolve, hff, Deferred.ofValue, Sem.run_bind, Sem.run_pure, Result.andThen_ok, invoke]
  obtain ⟨v, σ', kept, hKr, -, hG⟩ := hΦ.ok _ _ _ _ _ _ _ h
  rcases hG with ⟨hent, hcall⟩ | ⟨rfl, hx1, hx2, hx3⟩
  ·have hrun : (execOp a.eval o).run P w = .ok (.enter g ((first.toList ++ args.toList.map (ev tm) ++ cap.toList).map (rl β)).toArray) w := by rw [hop, hent]
   unfold Oper.wp
   rw [hrun, Oper.upon_enter]
   refine (hcall σ0 β0 β w rfl hp hina).mono ?_
   rintro e w' ⟨β', he, hle, hpre, rfl, hv', hp'⟩
   exact hk v σ' kept β' w' he hle hpre hv' hp' hKr
  ·refine hk v σ' kept β w (fun _ _ => rfl) (Nat.le_refl _) (fun _ => ⟨fun _ _ => rfl, Fresh.refl _ _ _⟩) (plain_inn hx2) hp hKr |> fun hn => ?_
   have hmap : (first.toList ++ args.toList.map (ev tm) ++ cap.toList).map (rl β) = first.toList ++ args.toList.map (ev tm) ++ cap.toList := by
    simp only [List.all_eq_true] at hx1
    conv => rhs; rw [← List.map_id (first.toList ++ args.toList.map (ev tm) ++ cap.toList)]
    exact List.map_congr_left fun x hx => rl_plain (hx1 x hx)
   have hrun : (execOp a.eval o).run P w = .ok (.value v) w := by rw [hop, hmap, hx3]
   unfold Oper.wp
   rw [hrun]
   rw [rl_plain hx2] at hn
   exact hn
 ·rename_i b args ts ho
  have hargs : (args.map a.eval) = ((args.toList.map (ev tm)).map (rl β)).toArray := by
   apply Array.ext'
   simp only [Array.toList_map, List.map_map]
   refine List.map_congr_left fun x hxa => ?_
   have hxa' := Array.mem_toList_iff.1 hxa
   exact hx' x (by simp [ho, Op.operands, Call.operands, hxa'])
  split at h
  ·rename_i v hv
   have hb := fun cs => (builtinL_run (P := P) (w := w) (β := β) (ty := o.type) (cs := cs) hv)
   refine pvalue v (hb #[]).2 h ?_
   simp only [execOp, ho, resolve, Sem.run_bind, Sem.run_pure, Result.andThen_ok, invoke, hargs]
   exact (hb _).1
  ·obtain ⟨v, σ', b', β', w', hb1, hle, hpre, hv, hp', hKr, hrun⟩ := listB_run (ty := o.type) hp h
   have hn := hk v σ' b' β' w' hb1 hle hpre hv hp' hKr
   unfold Oper.wp
   simp only [execOp, ho, resolve, Sem.run_bind, Sem.run_pure, Result.andThen_ok, invoke, hargs]
   rw [hrun _]
   exact hn
 ·rename_i ho; exact genw (by rw [ho]; intro cs b hh; cases hh) h
 ·rename_i sT dT x ho
  split at h
  ·rename_i v hg
   obtain ⟨h1, h2⟩ := gen_run (n := n) (fun cs b hh => by rw [ho] at hh; cases hh) hx' hg
   exact pvalue v h1 h (h2 w)
  ·obtain ⟨v, h1, h2, h3⟩ := convS_run hp.lies h
   refine pvalue v h2 h1 ?_
   simp [execOp, ho, hx' x (by simp [ho, Op.operands]), h3]
 ·rename_i ho; exact genw (by rw [ho]; intro cs b hh; cases hh) h
 ·rename_i ho; exact genw (by rw [ho]; intro cs b hh; cases hh) h
 ·rename_i x i ho
  split at h
  ·rename_i v hg
   obtain ⟨h1, h2⟩ := gen_run (n := n) (fun cs b hh => by rw [ho] at hh; cases hh) hx' hg
   exact pvalue v h1 h (h2 w)
  ·split at h
   case h_2 => simp at h
   rename_i vs hv
   split at h
   case h_2 => simp at h
   rename_i v hvi
   split at h
   case h_2 => simp at h
   rename_i hok
   have hxx := hx' x (by simp [ho, Op.operands])
   have hii := hin x (by simp [ho, Op.operands])
   rw [hv] at hxx hii
   have hvi' : vs[i]? = some v := by rw [← Array.getElem?_toList]; exact hvi
   have hsc : sc0 σ.length v = true := by
    simp only [inn, List.all_eq_true] at hii
    exact hii v (List.mem_of_getElem? hvi)
   have hin' : inn σ.length v = true := by
    cases v with
    | func fn u v =>
     simp only [ok0, Bool.and_eq_true, Array.isEmpty_iff] at hok
     obtain ⟨rfl, rfl⟩ := hok
     rfl
    | tuple vs =>
     simp only [ok0, Array.isEmpty_iff] at hok
     subst hok
     rfl
    | pointer a => cases a with
     | none => rfl
     | some a => exact hsc
    | slice a l c => cases a with
     | none => rfl
     | some a => exact hsc
    | _ => rfl
   refine value v hin' h ?_
   have ht : rl β (.tuple vs) = .tuple (vs.map (rl0 β)) := rfl
   rw [rl_ok0 hok]
   simp [execOp, ho, hxx, ht, Instr.extract, hvi']
 ·rename_i t x lo hi' mx ho
  unfold sliceO at h
  split at h
  case h_2 => simp at h
  rename_i lo
  obtain ⟨v, h1, h2, h3⟩ := sliceS_run hp.lies h
  refine value v h2 h1 ?_
  have e1 := hx' x (by simp [ho, Op.operands])
  have e2 := hx' lo (by simp [ho, Op.operands])
  simp [execOp, ho, e1, e2, h3]
 ·simp at h
theorem step_run {R : Type} {P : Program} {Φ : Tab} {W : World} (hΦ : Φ.Ok P W) {σ0 σ : LH} {w : World} {β0 β : Nat → Pl} {n : Nat} {o : Oper} {tm : Env} {a : Act} {K : Value → LH → Bool → Option R} {r : R}
  (hx : ∀ x ∈ o.op.operands, evOk tm x = true → a.eval x = rl β (ev tm x)) (hi : ∀ x ∈ o.op.operands, evOk tm x = true → inn σ.length (ev tm x) = true) (hp : Hp σ0 W β0 β σ w) (h : step P Φ σ0.length o tm σ K = some r)
  {next : Act → World → Prop} {Q : Exit → Act → World → Prop}
  (hk : ∀ v σ' b β' w', (∀ i, i < σ.length → β' i = β i) → σ.length ≤ σ'.length → (b = true → ∀ i, i < σ.length → σ'[i]? = σ[i]?) → inn σ'.length v = true → Hp σ0 W β0 β' σ' w' → K v σ' b = some r → next (a.put o.dst (rl β' v)) w') :
  o.wp P a w next Q := step_runF (n := n) hΦ hx hi hp h fun v σ' b β' w' h1 h2 h3 h4 h5 h6 => hk v σ' b β' w' h1 h2 (fun hb => (h3 hb).1) h4 h5 h6
theorem binL_val {R : Type} {P : Program} {o : Oper} {tm : Env} {op : BinOp} {t : TypeId} {x y : Value} {K : Value → Option R} {r : R} (h : binL P o tm op t x y K = some r) :
  ∃ v, K v = some r ∧ ∀ (S : Type) (K' : Value → Option S), binL P o tm op t x y K' = K' v := by
 unfold binL at h
 (repeat' split at h) <;> first | (simp at h; done) | exact ⟨_, h, fun S K' => by unfold binL; simp only [*]⟩ | skip
 rename_i a b
 cases hd : decide (a.size + b.size ≤ 9223372036854775807) with
 | false => rw [hd] at h; simp at h
 | true =>
  rw [hd] at h
  exact ⟨_, h, fun S K' => by unfold binL; simp only [hd, cond_true]⟩
theorem sliceStep_val {R : Type} {P : Program} {t : TypeId} {x : Operand} {lo hi mx : Option Operand} {tm : Env} {σ : LH} {K : Value → LH → Bool → Option R} {r : R}
  (h : (sliceO P t x lo hi mx tm σ fun v => K v σ true) = some r) :
  ∃ v, K v σ true = some r ∧ ∀ (bs : LH) (S : Type) (K' : Value → LH → Bool → Option S), (sliceO P t x lo hi mx tm (σ ++ bs) fun v => K' v (σ ++ bs) true) = K' v (σ ++ bs) true := by
 unfold sliceO at h
 split at h
 case h_2 => simp at h
 obtain ⟨v, h1, h2⟩ := sliceS_val h
 exact ⟨v, h1, fun bs S K' => h2 bs S fun v => K' v (σ ++ bs) true⟩
theorem step_val {R : Type} {P : Program} {Φ : Tab} {W : World} (hΦ : Φ.Ok P W) {m : Nat} {o : Oper} {tm : Env} {σ : LH} {K : Value → LH → Bool → Option R} {r : R} (h : step P Φ m o tm σ K = some r) :
  ∃ v σ' b, K v σ' b = some r ∧ ∀ (S : Type) (K' : Value → LH → Bool → Option S), step P Φ m o tm σ K' = K' v σ' b := by
 unfold step at h
 split at h
 ·simp at h
 rename_i hall
 split at h
 case h_15 =>
  rename_i ho
  obtain ⟨v, h1, h2⟩ := binL_val h
  refine ⟨v, σ, true, h1, fun S K' => ?_⟩
  unfold step
  simp only [hall]
  simp only [ho]
  exact h2 S fun v => K' v σ true
 case h_7 =>
  rename_i ho
  split at h
  ·rename_i σ2 hl
   exact ⟨_, σ2, _, h, fun S K' => by unfold step; simp only [hall]; simp only [ho, hl]⟩
  ·rename_i hl
   obtain ⟨σ2, h1, h2⟩ := storeS_val h
   refine ⟨_, σ2, _, h1, fun S K' => ?_⟩
   unfold step
   simp only [hall]
   simp only [ho, hl]
   exact h2 S fun σ' => K' undef σ' false
 case h_8 =>
  rename_i ho
  obtain ⟨v, σ2, h1, h2⟩ := makeL_val h
  refine ⟨v, σ2, _, h1, fun S K' => ?_⟩
  unfold step
  simp only [hall]
  simp only [ho]
  exact h2 S K'
 case h_6 =>
  rename_i ho
  split at h
  ·rename_i v hl
   exact ⟨v, _, _, h, fun S K' => by unfold step; simp only [hall]; simp only [ho, hl]⟩
  ·obtain ⟨v, h1, h2⟩ := loadS_val h
   refine ⟨v, _, _, h1, fun S K' => ?_⟩
   unfold step
   simp only [hall]
   have h3 := h2 [] S fun v => K' v σ true
   rw [List.append_nil] at h3
   simp only [ho, h3.1, h3.2]
 case h_10 =>
  rename_i ho
  split at h
  ·rename_i v hl
   exact ⟨v, _, _, h, fun S K' => by unfold step; simp only [hall]; simp only [ho, hl]⟩
  ·rename_i hl
   obtain ⟨-, v, h1, h2⟩ := indexS_val h
   refine ⟨v, _, _, h1, fun S K' => ?_⟩
   unfold step
   simp only [hall]
   have h3 := h2 [] S fun v => K' v σ true
   rw [List.append_nil] at h3
   simp only [ho, hl, h3]
 case h_17 =>
  rename_i ho
  split at h
  ·rename_i v hl
   exact ⟨v, _, _, h, fun S K' => by unfold step; simp only [hall]; simp only [ho, hl]⟩
  ·rename_i hl
   obtain ⟨-, v, σ', b', h1, h2, -⟩ := listB_val h
   refine ⟨v, σ', b', h1, fun S K' => ?_⟩
   unfold step
   simp only [hall]
   simp only [ho, hl, h2]
 case h_19 =>
  rename_i ho
  split at h
  ·rename_i v hl
   exact ⟨v, _, _, h, fun S K' => by unfold step; simp only [hall]; simp only [ho, hl]⟩
  ·rename_i hl
   obtain ⟨-, v, h1, h2⟩ := convS_val h
   refine ⟨v, _, _, h1, fun S K' => ?_⟩
   unfold step
   simp only [hall]
   have h3 := h2 [] S fun v => K' v σ true
   rw [List.append_nil] at h3
   simp only [ho, hl, h3]
 case h_23 =>
  rename_i ho
  obtain ⟨v, h1, h2⟩ := sliceStep_val h
  refine ⟨v, σ, true, h1, fun S K' => ?_⟩
  have h3 := h2 [] S K'
  rw [List.append_nil] at h3
  unfold step
  simp only [hall]
  simp only [ho]
  exact h3
 all_goals (repeat' split at h) <;> first | (simp at h; done) | exact ⟨_, _, _, h, fun S K' => by unfold step; simp only [hall]; simp only [*]⟩ | (obtain ⟨v, σ', kept, hK, hS, -⟩ := hΦ.ok _ _ _ _ _ _ _ h; exact ⟨v, σ', kept, hK, fun S K' => by unfold step; simp only [hall]; simp only [*]⟩)
def quiet (Φ : Tab) (tm : Env) (o : Oper) : Bool :=
 match o.op with
 | .call ⟨.value f, _, _⟩ => (match ev tm f with | .func (.func g) _ _ => Φ.free g | _ => false)
 | .store .. => false
 | .box .. => false
 | .alloc .. => false
 | .buildSlice .. => false
 | .makeSlice .. => false
 | .call ⟨.builtin b, _, _⟩ => (match b with | .append => false | _ => true)
 | _ => true
theorem loadL_ext {P : Program} {t : TypeId} {p v : Value} {σ bs : LH} (h : loadL P t p σ = some v) : loadL P t p (σ ++ bs) = some v := by
 unfold loadL at h ⊢
 split at h
 case h_2 => simp at h
 split at h
 case h_2 => simp at h
 rename_i hs
 simp only [getElem?_ext hs]
 exact h
theorem step_good {R : Type} {P : Program} {Φ : Tab} {m : Nat} {o : Oper} {tm : Env} {σ : LH} {K : Value → LH → Bool → Option R} {r : R} {v : Value} (h : K v σ true = some r)
  (hh : ∀ (bs : LH) (S : Type) (K' : Value → LH → Bool → Option S), step P Φ m o tm (σ ++ bs) K' = K' v (σ ++ bs) true) :
  ∃ v, ∀ (bs : LH) (S : Type) (K' : Value → LH → Bool → Option S), step P Φ m o tm (σ ++ bs) K' = K' v (σ ++ bs) true := ⟨v, hh⟩
theorem step_mono {R : Type} {P : Program} {Φ : Tab} {W : World} (hΦ : Φ.Ok P W) {m : Nat} {o : Oper} {tm : Env} {σ : LH} {K : Value → LH → Bool → Option R} {r : R} (hq : quiet Φ tm o = true) (h : step P Φ m o tm σ K = some r) :
  ∃ v, ∀ (bs : LH) (S : Type) (K' : Value → LH → Bool → Option S), step P Φ m o tm (σ ++ bs) K' = K' v (σ ++ bs) true := by
 unfold step at h
 split at h
 ·simp at h
 rename_i hall
 unfold quiet at hq
 split at h
 case h_7 =>
  rename_i ho
  rw [ho] at hq
  simp at hq
 case h_8 =>
  rename_i ho
  rw [ho] at hq
  simp at hq
 case h_15 =>
  rename_i ho
  obtain ⟨v, h1, h2⟩ := binL_val h
  refine ⟨v, fun bs S K' => ?_⟩
  unfold step
  simp only [hall]
  simp only [ho]
  exact h2 S fun v => K' v (σ ++ bs) true
 case h_16 =>
  rename_i f args ts ho
  rw [ho] at hq
  simp only [] at hq
  split at h
  case h_2 => simp at h
  rename_i g first cap hv
  rw [hv] at hq
  simp only [] at hq
  split at h
  case h_2 => simp at h
  rename_i hc
  obtain ⟨v, hf⟩ := hΦ.free _ _ _ _ _ _ _ hq h
  refine ⟨v, fun bs S K' => ?_⟩
  unfold step
  simp only [hall]
  simp only [ho, hv, hc]
  exact hf bs S K'
 case h_6 =>
  rename_i ho
  split at h
  ·rename_i v hl
   refine ⟨v, fun bs S K' => ?_⟩
   unfold step
   simp only [hall]
   simp only [ho, loadL_ext hl]
  ·obtain ⟨v, h1, h2⟩ := loadS_val h
   refine ⟨v, fun bs S K' => ?_⟩
   unfold step
   simp only [hall]
   have h3 := h2 bs S fun v => K' v (σ ++ bs) true
   simp only [ho, h3.1, h3.2]
 case h_10 =>
  rename_i ho
  split at h
  ·rename_i v hl
   exact ⟨v, fun bs S K' => by unfold step; simp only [hall]; simp only [ho, hl]⟩
  ·rename_i hl
   obtain ⟨-, v, h1, h2⟩ := indexS_val h
   refine ⟨v, fun bs S K' => ?_⟩
   unfold step
   simp only [hall]
   have h3 := h2 bs S fun v => K' v (σ ++ bs) true
   simp only [ho, hl, h3]
 case h_17 =>
  rename_i bb args ts ho
  rw [ho] at hq
  split at h
  ·rename_i v hl
   exact ⟨v, fun bs S K' => by unfold step; simp only [hall]; simp only [ho, hl]⟩
  ·rename_i hl
   obtain ⟨-, v, σ', b', h1, -, h2⟩ := listB_val h
   refine ⟨v, fun bs S K' => ?_⟩
   unfold step
   simp only [hall]
   simp only [ho, hl]
   exact h2 (fun he => by subst he; simp at hq) bs S K'
 case h_19 =>
  rename_i ho
  split at h
  ·rename_i v hl
   exact ⟨v, fun bs S K' => by unfold step; simp only [hall]; simp only [ho, hl]⟩
  ·rename_i hl
   obtain ⟨-, v, h1, h2⟩ := convS_val h
   refine ⟨v, fun bs S K' => ?_⟩
   unfold step
   simp only [hall]
   have h3 := h2 bs S fun v => K' v (σ ++ bs) true
   simp only [ho, hl, h3]
 case h_23 =>
  rename_i ho
  obtain ⟨v, h1, h2⟩ := sliceStep_val h
  refine ⟨v, fun bs S K' => ?_⟩
  unfold step
  simp only [hall]
  simp only [ho]
  exact h2 bs S K'
 all_goals (repeat' split at h) <;> first | (simp at h; done) | (rename_i ho; rw [ho] at hq; simp at hq; done) | exact step_good h (fun bs S K' => by unfold step; simp only [hall]; simp only [*]) | (exfalso; clear h; simp_all; done)
def freeOp (tm : Env) (o : Oper) : Bool :=
 match o.op with
 | .move _ => true
 | .assign _ => true
 | .pick .. => true
 | .fieldAddr .. => true
 | .indexAddr _ x _ => !(isHdr (ev tm x))
 | .nilCheck _ => true
 | .makeFunc .. => true
 | .build .. => true
 | .binOp .. => true
 | .unOp .. => true
 | .convert _ _ x => (match ev tm x with | .slice (some _) _ _ => false | _ => true)
 | .field .. => true
 | .index .. => true
 | .extract .. => true
 | .call ⟨.builtin _, args, _⟩ => !((args.toList.map (ev tm)).any isHdr)
 | _ => false
theorem step_goodF {R : Type} {P : Program} {Φ : Tab} {m : Nat} {o : Oper} {tm : Env} {σ : LH} {K : Value → LH → Bool → Option R} {r : R} {v : Value} (h : K v σ true = some r)
  (hh : ∀ (σ' : LH) (S : Type) (K' : Value → LH → Bool → Option S), step P Φ m o tm σ' K' = K' v σ' true) :
  ∃ v, ∀ (σ' : LH) (S : Type) (K' : Value → LH → Bool → Option S), step P Φ m o tm σ' K' = K' v σ' true := ⟨v, hh⟩
theorem step_free {R : Type} {P : Program} {Φ : Tab} {m : Nat} {o : Oper} {tm : Env} {σ : LH} {K : Value → LH → Bool → Option R} {r : R} (hq : freeOp tm o = true) (h : step P Φ m o tm σ K = some r) :
  ∃ v, ∀ (σ' : LH) (S : Type) (K' : Value → LH → Bool → Option S), step P Φ m o tm σ' K' = K' v σ' true := by
 unfold step at h
 split at h
 ·simp at h
 rename_i hall
 unfold freeOp at hq
 split at h
 case h_7 =>
  rename_i ho
  rw [ho] at hq
  simp at hq
 case h_8 =>
  rename_i ho
  rw [ho] at hq
  simp at hq
 case h_15 =>
  rename_i ho
  obtain ⟨v, h1, h2⟩ := binL_val h
  refine ⟨v, fun σ' S K' => ?_⟩
  unfold step
  simp only [hall]
  simp only [ho]
  exact h2 S fun v => K' v σ' true
 case h_16 =>
  rename_i f args ts ho
  rw [ho] at hq
  simp at hq
 case h_6 =>
  rename_i ho
  rw [ho] at hq
  simp at hq
 case h_10 =>
  rename_i ho
  rw [ho] at hq
  split at h
  ·rename_i v hl
   exact ⟨v, fun σ' S K' => by unfold step; simp only [hall]; simp only [ho, hl]⟩
  ·have := (indexS_val h).1
   simp [this] at hq
 case h_17 =>
  rename_i ho
  rw [ho] at hq
  split at h
  ·rename_i v hl
   exact ⟨v, fun σ' S K' => by unfold step; simp only [hall]; simp only [ho, hl]⟩
  ·have := (listB_val h).1
   simp [this] at hq
 case h_19 =>
  rename_i ho
  rw [ho] at hq
  split at h
  ·rename_i v hl
   exact ⟨v, fun σ' S K' => by unfold step; simp only [hall]; simp only [ho, hl]⟩
  ·obtain ⟨⟨a, l, c, hx⟩, _⟩ := convS_val h
   simp only [hx] at hq
   cases hq
 case h_23 =>
  rename_i ho
  rw [ho] at hq
  simp at hq
 all_goals (repeat' split at h) <;> first | (simp at h; done) | (exfalso; clear h; simp_all; done) | exact step_goodF h (fun σ' S K' => by unfold step; simp only [hall]; simp only [*])
theorem step_alloc {R : Type} {P : Program} {Φ : Tab} {m : Nat} {o : Oper} {tm : Env} {σ : LH} {K : Value → LH → Bool → Option R} {r : R} {t : TypeId} (ho : o.op = .alloc t) (h : step P Φ m o tm σ K = some r) :
  ∃ v b, ∀ (S : Type) (K' : Value → LH → Bool → Option S), step P Φ m o tm σ K' = K' v (σ ++ [b]) true := by
 unfold step at h
 split at h
 ·simp at h
 rename_i hall
 simp only [ho] at h
 split at h
 case h_2 => simp at h
 rename_i z hz
 split at h
 case h_2 => simp at h
 rename_i hc
 exact ⟨.pointer (some ⟨σ.length, 0, none⟩), (z.cells, t), fun S K' => by unfold step; simp only [hall]; simp only [ho, hz, hc]⟩
end Go.RX
