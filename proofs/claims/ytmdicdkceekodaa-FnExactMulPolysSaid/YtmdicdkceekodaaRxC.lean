/- One operation, whole: the interpreter's step, and that the machine takes it. -/
import Derived.Test.YtmdicdkceekodaaRxB
import Derived.Laws.Tables
set_option linter.unusedSimpArgs false
set_option linter.unusedVariables false
namespace Go.RX
open Go.RowKit

/-! ### Operations that look at nothing but their operands -/
def gen (P : Program) (o : Oper) (tm : Env) : Option Value :=
  match o.op.operands.toList.all (fun x => plain (ev tm x)) with
  | true => match pv P (execOp (ev tm) o) with
    | some (.value v) => match plain v with | true => some v | false => none
    | _ => none
  | false => none

theorem gen_run {P : Program} {n : Nat} {β : Nat → Nat} {o : Oper} {tm : Env} {a : Act} {v : Value} (hs : ∀ cs b, o.op ≠ .select cs b)
    (hx : ∀ x ∈ o.op.operands, a.eval x = rl β (ev tm x)) (hg : gen P o tm = some v) : plain v = true ∧ ∀ w, (execOp a.eval o).run P w = .ok (.value v) w := by
  unfold gen at hg
  split at hg
  case h_2 => simp at hg
  rename_i hall
  simp only [List.all_eq_true] at hall
  split at hg
  case h_2 => simp at hg
  rename_i v' hv
  split at hg
  case h_2 => simp at hg
  rename_i hp
  simp only [Option.some.injEq] at hg
  subst hg
  refine ⟨hp, fun w => ?_⟩
  rw [execOp_congr o hs (ρ' := ev tm) fun x hxo => by rw [hx x hxo, rl_plain (hall x (by simpa using hxo))]]
  exact pv_run _ hv w

/-- Two values, compared or reckoned with: what can hang on the values is told by a test. -/
def binL {R : Type} (P : Program) (o : Oper) (tm : Env) (op : BinOp) (t : TypeId) (x y : Value) (K : Value → Option R) : Option R :=
  match op, x, y with
  | .quo, .int k a, .int k' b => match decide (k = k') with
    | true => (match decide (b = 0) with | true => none | false => K (.int k (k.wrap (a.tdiv b))))
    | false => none
  | .rem, .int k a, .int k' b => match decide (k = k') with
    | true => (match decide (b = 0) with | true => none | false => K (.int k (a.tmod b)))
    | false => none
  | .shl, .int k a, .int _ b => (match decide (b < 0) with | true => none | false => K (.int k (k.wrap (a * 2 ^ (min b.toNat k.bits)))))
  | .shr, .int k a, .int _ b => (match decide (b < 0) with | true => none | false => K (.int k (a.fdiv (2 ^ (min b.toNat k.bits)))))
  | .eql, .agg xs, .agg ys => match (pv P (eqGuard op t (.const x) (.const y) x y)).isSome, eqL P Op.maxDepth t x y with
    | true, some b => K (.bool b)
    | _, _ => none
  | .neq, .agg xs, .agg ys => match (pv P (eqGuard op t (.const x) (.const y) x y)).isSome, eqL P Op.maxDepth t x y with
    | true, some b => K (.bool !b)
    | _, _ => none
  | _, _, _ => match gen P o tm with
    | some v => K v
    | none => none

theorem binL_run {R : Type} {P : Program} {n : Nat} {β : Nat → Nat} {o : Oper} {tm : Env} {a : Act} {op : BinOp} {t ty : TypeId} {x y : Operand} {K : Value → Option R} {r : R}
    (ho : o.op = .binOp op t x y ty) (hx : ∀ z ∈ o.op.operands, a.eval z = rl β (ev tm z)) (h : binL P o tm op t (ev tm x) (ev tm y) K = some r) :
    ∃ v, plain v = true ∧ (∀ w, (execOp a.eval o).run P w = .ok (.value v) w) ∧ K v = some r := by
  have hex : a.eval x = rl β (ev tm x) := hx x (by simp [ho, Op.operands])
  have hey : a.eval y = rl β (ev tm y) := hx y (by simp [ho, Op.operands])
  have hsel : ∀ cs b, o.op ≠ .select cs b := by rw [ho]; intro cs b hh; cases hh
  unfold binL at h
  split at h
  · rename_i k a' k' b h1 h2
    split at h
    case h_2 => simp at h
    rename_i hk
    simp only [decide_eq_true_eq] at hk
    subst hk
    split at h
    · simp at h
    rename_i hb
    simp only [decide_eq_false_iff_not] at hb
    refine ⟨_, rfl, fun w => ?_, h⟩
    simp [execOp, ho, hex, hey, h1, h2, rl, eqGuard, binOp, Op.intDiv, hb]
  · rename_i k a' k' b h1 h2
    split at h
    case h_2 => simp at h
    rename_i hk
    simp only [decide_eq_true_eq] at hk
    subst hk
    split at h
    · simp at h
    rename_i hb
    simp only [decide_eq_false_iff_not] at hb
    refine ⟨_, rfl, fun w => ?_, h⟩
    simp [execOp, ho, hex, hey, h1, h2, rl, eqGuard, binOp, Op.intDiv, hb]
  · rename_i k a' k' b h1 h2
    split at h
    · simp at h
    rename_i hb
    simp only [decide_eq_false_iff_not] at hb
    refine ⟨_, rfl, fun w => ?_, h⟩
    simp [execOp, ho, hex, hey, h1, h2, rl, eqGuard, binOp, Op.shift, hb]
  · rename_i k a' k' b h1 h2
    split at h
    · simp at h
    rename_i hb
    simp only [decide_eq_false_iff_not] at hb
    refine ⟨_, rfl, fun w => ?_, h⟩
    simp [execOp, ho, hex, hey, h1, h2, rl, eqGuard, binOp, Op.shift, hb]
  · rename_i xs ys h1 h2
    split at h
    case h_2 => simp at h
    rename_i b hg he
    refine ⟨_, rfl, fun w => ?_, h⟩
    obtain ⟨u, hu⟩ := Option.isSome_iff_exists.1 hg
    rw [h1, h2] at hu he
    have hgr := pv_run _ hu w
    have her := eqL_run _ _ _ _ _ he w
    have hgr' : (eqGuard .eql t x y (.agg xs) (.agg ys)).run P w = .ok u w := hgr
    simp [execOp, ho, hex, hey, h1, h2, rl, hgr', binOp, Op.equal, her]
  · rename_i xs ys h1 h2
    split at h
    case h_2 => simp at h
    rename_i b hg he
    refine ⟨_, rfl, fun w => ?_, h⟩
    obtain ⟨u, hu⟩ := Option.isSome_iff_exists.1 hg
    rw [h1, h2] at hu he
    have hgr := pv_run _ hu w
    have her := eqL_run _ _ _ _ _ he w
    have hgr' : (eqGuard .neq t x y (.agg xs) (.agg ys)).run P w = .ok u w := hgr
    simp [execOp, ho, hex, hey, h1, h2, rl, hgr', binOp, Op.equal, her]
  · split at h
    case h_2 => simp at h
    rename_i v hg
    obtain ⟨hp, hr⟩ := gen_run (n := n) hsel hx hg
    exact ⟨v, hp, hr, h⟩

/-- min and max of whole numbers. -/
def maxL (k : IntKind) (x : Int) : List Value → Option Value
  | [] => some (.int k x)
  | .int _ y :: r => maxL k (if y > x then y else x) r
  | _ => none
def minL (k : IntKind) (x : Int) : List Value → Option Value
  | [] => some (.int k x)
  | .int _ y :: r => minL k (if y < x then y else x) r
  | _ => none

theorem maxL_run {P : Program} {w : World} : ∀ (l : List Value) (k : IntKind) (x : Int) (v : Value), maxL k x l = some v → (l.foldlM Builtin.max2 (.int k x)).run P w = .ok v w ∧ plain v = true
  | [], k, x, v, h => by simp only [maxL, Option.some.injEq] at h; subst h; exact ⟨rfl, rfl⟩
  | y :: r, k, x, v, h => by
    cases y <;> simp only [maxL, reduceCtorEq] at h
    rename_i k' y
    have ih := maxL_run (P := P) (w := w) r k _ v h
    refine ⟨?_, ih.2⟩
    simp only [List.foldlM_cons, Builtin.max2, Sem.run_bind, Sem.run_pure, Result.andThen_ok]
    exact ih.1
theorem minL_run {P : Program} {w : World} : ∀ (l : List Value) (k : IntKind) (x : Int) (v : Value), minL k x l = some v → (l.foldlM Builtin.min2 (.int k x)).run P w = .ok v w ∧ plain v = true
  | [], k, x, v, h => by simp only [minL, Option.some.injEq] at h; subst h; exact ⟨rfl, rfl⟩
  | y :: r, k, x, v, h => by
    cases y <;> simp only [minL, reduceCtorEq] at h
    rename_i k' y
    have ih := minL_run (P := P) (w := w) r k _ v h
    refine ⟨?_, ih.2⟩
    simp only [List.foldlM_cons, Builtin.min2, Sem.run_bind, Sem.run_pure, Result.andThen_ok]
    exact ih.1

/-- len of a text or a slice; min and max of whole numbers. -/
def builtinL (P : Program) (b : Builtin) (ts : Array TypeId) (args : List Value) : Option Value :=
  match b, args with
  | .max, .int k x :: r => maxL k x r
  | .min, .int k x :: r => minL k x r
  | .len, [.string s] => match ts.toList[0]? with
    | some t => match pv P (underlying t) with
      | some .string => some (goInt s.size)
      | _ => none
    | none => none
  | .len, [.slice _ n _] => match ts.toList[0]? with
    | some t => match pv P (underlying t) with
      | some (.slice _) => some (goInt n)
      | _ => none
    | none => none
  | _, _ => none

theorem builtinL_run {P : Program} {w : World} {β : Nat → Nat} {b : Builtin} {ts : Array TypeId} {ty : TypeId} {cs : Array Bool} {args : List Value} {v : Value} (h : builtinL P b ts args = some v) :
    (builtin b ts ty cs (args.map (rl β)).toArray).run P w = .ok (.value v) w ∧ plain v = true := by
  have ints : ∀ (l : List Value) (k : IntKind) (x : Int) (v : Value), (maxL k x l = some v ∨ minL k x l = some v) → l.map (rl β) = l := by
    intro l
    induction l with
    | nil => intro k x v h; rfl
    | cons y r ih =>
      intro k x v h
      cases y with
      | int k' y =>
        have hr : r.map (rl β) = r := by
          rcases h with h | h
          · exact ih _ _ _ (Or.inl (by simpa [maxL] using h))
          · exact ih _ _ _ (Or.inr (by simpa [minL] using h))
        simp [rl, hr]
      | _ => rcases h with h | h <;> simp [maxL, minL] at h
  unfold builtinL at h
  split at h
  · rename_i k x r
    have := maxL_run (P := P) (w := w) r k x v h
    have hr := ints _ _ _ _ (Or.inl h)
    refine ⟨?_, this.2⟩
    simp only [builtin, Builtin.max_, List.map_cons, hr, rl, Sem.run_bind, this.1, Result.andThen_ok, Sem.run_pure]
  · rename_i k x r
    have := minL_run (P := P) (w := w) r k x v h
    have hr := ints _ _ _ _ (Or.inr h)
    refine ⟨?_, this.2⟩
    simp only [builtin, Builtin.min_, List.map_cons, hr, rl, Sem.run_bind, this.1, Result.andThen_ok, Sem.run_pure]
  · rename_i s
    split at h
    case h_2 => simp at h
    rename_i t ht
    split at h
    case h_2 => simp at h
    rename_i hu
    simp only [Option.some.injEq] at h
    subst h
    have ht' : ts[0]? = some t := by rw [← Array.getElem?_toList]; exact ht
    refine ⟨?_, rfl⟩
    simp [builtin, Builtin.len_, ht', pv_run _ hu w, rl]
  · rename_i p n c
    split at h
    case h_2 => simp at h
    rename_i t ht
    split at h
    case h_2 => simp at h
    rename_i hu
    simp only [Option.some.injEq] at h
    subst h
    have ht' : ts[0]? = some t := by rw [← Array.getElem?_toList]; exact ht
    refine ⟨?_, rfl⟩
    cases p <;> simp [builtin, Builtin.len_, ht', pv_run _ hu w, rl]
  · simp at h

/-! ### A call's contract -/
/-- Function g, called with these arguments where the blocks σ lie, hands back v and leaves the blocks σ'. -/
def Gives (P : Program) (g : FuncId) (args : List Value) (σ : LH) (v : Value) (σ' : LH) : Prop :=
  (∀ as w, (callFunc g as).run P w = .ok (.enter g as) w) ∧
  ∀ (β : Nat → Nat) (w : World), Lies β σ w → (∀ x ∈ args, inn σ.length x = true) →
    Calls P g (args.map (rl β)).toArray w fun e w' => ∃ β', e = .returned (rl β' v) ∧ inn σ'.length v = true ∧ Hp σ w β β' σ' w'

/-- The same for a callee that may also write the caller's own blocks (from m on); kept: it has not. -/
def GivesW (P : Program) (m : Nat) (g : FuncId) (args : List Value) (σ : LH) (v : Value) (σ' : LH) (kept : Bool) : Prop :=
  (∀ as w, (callFunc g as).run P w = .ok (.enter g as) w) ∧
  ∀ (σ0 : LH) (W : World) (β0 β : Nat → Nat) (w : World), σ0.length = m → Hp σ0 W β0 β σ w → (∀ x ∈ args, inn σ.length x = true) →
    Calls P g (args.map (rl β)).toArray w fun e w' => ∃ β', (∀ i, i < σ.length → β' i = β i) ∧ σ.length ≤ σ'.length ∧ (kept = true → ∀ i, i < σ.length → σ'[i]? = σ[i]?) ∧
      e = .returned (rl β' v) ∧ inn σ'.length v = true ∧ Hp σ0 W β0 β' σ' w'
/-- A function of the machine's own. -/
def Ext (P : Program) (g : FuncId) (args : List Value) (v : Value) : Prop :=
  args.all plain = true ∧ plain v = true ∧ ∀ w, (callFunc g args.toArray).run P w = .ok (.value v) w

theorem Gives.wide {P : Program} {m : Nat} {g : FuncId} {args : List Value} {σ σ' : LH} {v : Value} (h : Gives P g args σ v σ') : GivesW P m g args σ v σ' true := by
  refine ⟨h.1, fun σ0 W β0 β w _ hp ha => ?_⟩
  refine (h.2 β w hp.lies ha).mono ?_
  rintro e w' ⟨β', rfl, hv, hp'⟩
  exact ⟨β', hp'.ext, hp'.mle, fun _ => hp'.pre, rfl, hv, hp.call hp'⟩

/-- What the interpreter takes for the callees: the value, the blocks, are the old blocks as they were. -/
structure Tab where
  f : ∀ (R : Type), Nat → FuncId → List Value → LH → (Value → LH → Bool → Option R) → Option R
  free : FuncId → Bool
structure Tab.Ok (P : Program) (Φ : Tab) : Prop where
  ok : ∀ (R : Type) m g args σ (K : Value → LH → Bool → Option R) r, Φ.f R m g args σ K = some r →
    ∃ v σ' b, K v σ' b = some r ∧ (∀ (S : Type) (K' : Value → LH → Bool → Option S), Φ.f S m g args σ K' = K' v σ' b) ∧ (GivesW P m g args σ v σ' b ∨ (σ' = σ ∧ Ext P g args v))
  free : ∀ (R : Type) m g args σ (K : Value → LH → Bool → Option R) r, Φ.free g = true → Φ.f R m g args σ K = some r →
    ∃ v, ∀ (bs : LH) (S : Type) (K' : Value → LH → Bool → Option S), Φ.f S m g args (σ ++ bs) K' = K' v (σ ++ bs) true

def ok0 : Value → Bool
  | .func _ a b => a.isEmpty && b.isEmpty
  | _ => true

theorem rl_ok0 {β : Nat → Nat} {v : Value} (h : ok0 v = true) : rl β v = rl0 β v := by
  cases v with
  | func fn a b =>
    simp only [ok0, Bool.and_eq_true, Array.isEmpty_iff] at h
    obtain ⟨rfl, rfl⟩ := h
    simp [rl, rl0]
  | pointer a => cases a <;> rfl
  | slice a l c => cases a <;> rfl
  | _ => rfl
theorem inn_ok0 {n : Nat} {v : Value} (h : ok0 v = true) (hi : inn n v = true) : sc0 n v = true := by
  cases v with
  | func fn a b => rfl
  | pointer a => cases a with
    | none => rfl
    | some a => exact hi
  | slice a l c => cases a with
    | none => rfl
    | some a => exact hi
  | _ => rfl

/-! ### One operation -/
def step {R : Type} (P : Program) (Φ : Tab) (m : Nat) (o : Oper) (tm : Env) (σ : LH) (K : Value → LH → Bool → Option R) : Option R :=
  match o.op.operands.toList.all (evOk tm) with
  | false => none
  | true =>
  match o.op with
  | .move x => K (ev tm x) σ true
  | .assign x => K (ev tm x) σ true
  | .pick c a b => match ev tm c with
    | .bool t => (match t with | true => K (ev tm a) σ true | false => K (ev tm b) σ true)
    | _ => none
  | .box t x => match cellsOk (ev tm x) with
    | true => K (.pointer (some ⟨σ.length, 0, none⟩)) (σ ++ [((ev tm x).cells, t)]) true
    | false => none
  | .alloc t => match pv P (zeroValue t) with
    | some z => match cellsOk z && plain z with
      | true => K (.pointer (some ⟨σ.length, 0, none⟩)) (σ ++ [(z.cells, t)]) true
      | false => none
    | none => none
  | .load t x => match loadL P t (ev tm x) σ with | some v => K v σ true | none => none
  | .store t x y => match storeL P m t (ev tm x) (ev tm y) σ with | some σ' => K undef σ' false | none => none
  | .fieldAddr s x f => match fieldL P s (ev tm x) f with | some v => K v σ true | none => none
  | .indexAddr t x i => match indexL P t (ev tm x) (ev tm i) with | some v => K v σ true | none => none
  | .nilCheck x => match ev tm x with
    | .pointer (some a) => K (.pointer (some a)) σ true
    | .func (.func g) a b => K (.func (.func g) a b) σ true
    | _ => none
  | .makeFunc fn a b => match (a.toList.map (ev tm)).all ok0 && (b.toList.map (ev tm)).all ok0 with
    | true => K (.func fn (a.toList.map (ev tm)).toArray (b.toList.map (ev tm)).toArray) σ true
    | false => none
  | .build t parts => match parts.toList.all (fun p => plain (ev tm p.2)) with
    | true => (match P.built t (parts.toList.map fun p => (p.1, ev tm p.2)) with
      | some cells => K (.agg cells) σ true
      | none => none)
    | false => none
  | .buildSlice t len parts => match parts.toList.all (fun p => plain (ev tm p.2)) with
    | true => (match rowL P t len (parts.toList.map fun p => (p.1, ev tm p.2)) with
      | some (e, cells) => (match cells.toList.all (fun x => plain x && x.oneCell') with
        | true => K (.slice (some ⟨σ.length, 0, none⟩) len len) (σ ++ [(cells, e)]) true
        | false => none)
      | none => none)
    | false => none
  | .binOp op t x y _ => binL P o tm op t (ev tm x) (ev tm y) fun v => K v σ true
  | .call ⟨.value f, args, _⟩ => match ev tm f with
    | .func (.func g) first cap => (match first.toList.all ok0 && cap.toList.all ok0 with
      | true => Φ.f R m g (first.toList ++ args.toList.map (ev tm) ++ cap.toList) σ K
      | false => none)
    | _ => none
  | .call ⟨.builtin b, args, ts⟩ => match builtinL P b ts (args.toList.map (ev tm)) with | some v => K v σ true | none => none
  | .unOp .. => match gen P o tm with | some v => K v σ true | none => none
  | .convert .. => match gen P o tm with | some v => K v σ true | none => none
  | .field .. => match gen P o tm with | some v => K v σ true | none => none
  | .index .. => match gen P o tm with | some v => K v σ true | none => none
  | .extract .. => match gen P o tm with | some v => K v σ true | none => none
  | _ => none


/-- The interpreter's step is the machine's. -/
theorem step_run {R : Type} {P : Program} {Φ : Tab} (hΦ : Φ.Ok P) {σ0 σ : LH} {W w : World} {β0 β : Nat → Nat} {n : Nat} {o : Oper} {tm : Env} {a : Act} {K : Value → LH → Bool → Option R} {r : R}
    (hx : ∀ x ∈ o.op.operands, evOk tm x = true → a.eval x = rl β (ev tm x)) (hi : ∀ x ∈ o.op.operands, evOk tm x = true → inn σ.length (ev tm x) = true) (hp : Hp σ0 W β0 β σ w) (h : step P Φ σ0.length o tm σ K = some r)
    {next : Act → World → Prop} {Q : Exit → Act → World → Prop}
    (hk : ∀ v σ' b β' w', (∀ i, i < σ.length → β' i = β i) → σ.length ≤ σ'.length → (b = true → ∀ i, i < σ.length → σ'[i]? = σ[i]?) → inn σ'.length v = true → Hp σ0 W β0 β' σ' w' → K v σ' b = some r → next (a.put o.dst (rl β' v)) w') :
    o.wp P a w next Q := by
  unfold step at h
  split at h
  · simp at h
  rename_i hall
  simp only [List.all_eq_true] at hall
  have hx' : ∀ x ∈ o.op.operands, a.eval x = rl β (ev tm x) := fun x hxo => hx x hxo (hall x (by simpa using hxo))
  have hin : ∀ x ∈ o.op.operands, inn σ.length (ev tm x) = true := fun x hxo => hi x hxo (hall x (by simpa using hxo))
  have same : ∀ v, inn σ.length v = true → K v σ true = some r → next (a.put o.dst (rl β v)) w := fun v hv hkv => hk v σ true β w (fun _ _ => rfl) (Nat.le_refl _) (fun _ _ _ => rfl) hv hp hkv
  have value : ∀ v, inn σ.length v = true → K v σ true = some r → (execOp a.eval o).run P w = .ok (.value (rl β v)) w → o.wp P a w next Q := fun v hv hkv hrun => by
    unfold Oper.wp
    rw [hrun]
    exact same v hv hkv
  have pvalue : ∀ v, plain v = true → K v σ true = some r → (execOp a.eval o).run P w = .ok (.value v) w → o.wp P a w next Q := fun v hv hkv hrun =>
    value v (plain_inn hv) hkv (by rw [rl_plain hv]; exact hrun)
  have genw : (∀ cs b, o.op ≠ .select cs b) → (match gen P o tm with | some v => K v σ true | none => none) = some r → o.wp P a w next Q := fun hs hg => by
    split at hg
    case h_2 => simp at hg
    rename_i v hv
    obtain ⟨h1, h2⟩ := gen_run (n := n) hs hx' hv
    exact pvalue v h1 hg (h2 w)
  split at h
  · rename_i x ho
    refine value _ (hin x (by simp [ho, Op.operands])) h ?_
    simp [execOp, ho, hx' x (by simp [ho, Op.operands])]
  · rename_i x ho
    refine value _ (hin x (by simp [ho, Op.operands])) h ?_
    simp [execOp, ho, hx' x (by simp [ho, Op.operands])]
  · rename_i c x y ho
    have hc := hx' c (by simp [ho, Op.operands])
    split at h
    case h_2 => simp at h
    rename_i t ht
    rw [ht] at hc
    split at h
    · refine value _ (hin x (by simp [ho, Op.operands])) h ?_
      simp [execOp, ho, hc, rl, asBool, hx' x (by simp [ho, Op.operands])]
    · refine value _ (hin y (by simp [ho, Op.operands])) h ?_
      simp [execOp, ho, hc, rl, asBool, hx' y (by simp [ho, Op.operands])]
  · rename_i t x ho
    split at h
    case h_2 => simp at h
    rename_i hc
    have hxx := hx' x (by simp [ho, Op.operands])
    obtain ⟨hcr, hcs⟩ := cells_rl (β := β) hc (hin x (by simp [ho, Op.operands]))
    obtain ⟨β', h1, h2, h3⟩ := hp.new (ev tm x).cells t hcs
    have hnext := hk _ _ _ β' _ h1 (by simp) (fun _ i hi => List.getElem?_append_left hi) (by simp [inn]) h3 h
    unfold Oper.wp
    have hrun : (execOp a.eval o).run P w = .ok (.value (rl β' (.pointer (some ⟨σ.length, 0, none⟩)))) { w with heap := w.heap.push (.cells ((ev tm x).cells.map (rl β)) t (0, 0)) } := by
      have hrl : rl β' (.pointer (some ⟨σ.length, 0, none⟩)) = .pointer (some ⟨w.heap.size, 0, none⟩) := by simp [rl, h2]
      rw [hrl]
      simp [execOp, ho, hxx, Instr.box, newVar, newRow, newObj, Sem.run, hcr]
    rw [hrun]
    exact hnext
  · rename_i t ho
    split at h
    case h_2 => simp at h
    rename_i z hz
    split at h
    case h_2 => simp at h
    rename_i hc
    simp only [Bool.and_eq_true] at hc
    obtain ⟨hcr, hcs⟩ := cells_rl (β := β) hc.1 (plain_inn (n := σ.length) hc.2)
    rw [rl_plain hc.2] at hcr
    obtain ⟨β', h1, h2, h3⟩ := hp.new z.cells t hcs
    have hnext := hk _ _ _ β' _ h1 (by simp) (fun _ i hi => List.getElem?_append_left hi) (by simp [inn]) h3 h
    unfold Oper.wp
    have hrun : (execOp a.eval o).run P w = .ok (.value (rl β' (.pointer (some ⟨σ.length, 0, none⟩)))) { w with heap := w.heap.push (.cells (z.cells.map (rl β)) t (0, 0)) } := by
      simp [execOp, ho, Instr.alloc, pv_run _ hz w, newVar, newRow, newObj, Sem.run, ← hcr, rl, h2]
    rw [hrun]
    exact hnext
  · rename_i t x ho
    split at h
    case h_2 => simp at h
    rename_i v hv
    obtain ⟨h1, h2⟩ := loadL_run hp.lies hv
    refine value v h2 h ?_
    simp [execOp, ho, hx' x (by simp [ho, Op.operands]), h1]
  · rename_i t x y ho
    split at h
    case h_2 => simp at h
    rename_i σ' hv
    obtain ⟨w', h1, h2, h3⟩ := storeL_run hp (hin y (by simp [ho, Op.operands])) hv
    have hnext := hk undef σ' false β w' (fun _ _ => rfl) (by omega) (fun hh => by cases hh) rfl h2 h
    unfold Oper.wp
    have hrun : (execOp a.eval o).run P w = .ok .skip w' := by
      simp [execOp, ho, hx' x (by simp [ho, Op.operands]), hx' y (by simp [ho, Op.operands]), h1]
    rw [hrun]
    exact hnext
  · rename_i s x f ho
    split at h
    case h_2 => simp at h
    rename_i v hv
    obtain ⟨h1, h2⟩ := fieldL_run (β := β) (hin x (by simp [ho, Op.operands])) hv
    refine value v h2 h ?_
    simp [execOp, ho, hx' x (by simp [ho, Op.operands]), h1 w]
  · rename_i s x i ho
    split at h
    case h_2 => simp at h
    rename_i v hv
    obtain ⟨h1, h2⟩ := indexL_run (β := β) (hin x (by simp [ho, Op.operands])) hv
    refine value v h2 h ?_
    simp [execOp, ho, hx' x (by simp [ho, Op.operands]), hx' i (by simp [ho, Op.operands]), h1 w]
  · rename_i x ho
    have hxx := hx' x (by simp [ho, Op.operands])
    have hii := hin x (by simp [ho, Op.operands])
    split at h
    · rename_i b hb
      rw [hb] at hxx hii
      refine value _ hii h ?_
      simp [execOp, ho, hxx, rl]
    · rename_i g u v hb
      rw [hb] at hxx hii
      refine value _ hii h ?_
      simp [execOp, ho, hxx, rl]
    · simp at h
  · rename_i fn u v ho
    split at h
    case h_2 => simp at h
    rename_i hok
    simp only [Bool.and_eq_true, List.all_eq_true, List.mem_map, forall_exists_index, and_imp, forall_apply_eq_imp_iff₂] at hok
    have hu : u.map a.eval = ((u.toList.map (ev tm)).toArray).map (rl0 β) := by
      apply Array.ext'
      simp only [Array.toList_map, List.map_map]
      refine List.map_congr_left fun x hxu => ?_
      have hxu' := Array.mem_toList_iff.1 hxu
      rw [hx' x (by simp [ho, Op.operands, hxu']), rl_ok0 (hok.1 x hxu)]
      rfl
    have hv : v.map a.eval = ((v.toList.map (ev tm)).toArray).map (rl0 β) := by
      apply Array.ext'
      simp only [Array.toList_map, List.map_map]
      refine List.map_congr_left fun x hxu => ?_
      have hxu' := Array.mem_toList_iff.1 hxu
      rw [hx' x (by simp [ho, Op.operands, hxu']), rl_ok0 (hok.2 x hxu)]
      rfl
    refine value _ ?_ h ?_
    · simp only [inn, Bool.and_eq_true, List.all_eq_true]
      refine ⟨fun x hxu => ?_, fun x hxu => ?_⟩
      · simp only [List.mem_map] at hxu
        obtain ⟨y, hy, rfl⟩ := hxu
        have hy' := Array.mem_toList_iff.1 hy
        exact inn_ok0 (hok.1 y hy) (hin y (by simp [ho, Op.operands, hy']))
      · simp only [List.mem_map] at hxu
        obtain ⟨y, hy, rfl⟩ := hxu
        have hy' := Array.mem_toList_iff.1 hy
        exact inn_ok0 (hok.2 y hy) (hin y (by simp [ho, Op.operands, hy']))
    · simp only [execOp, ho, Instr.makeFunc, hu, hv, rl]
      rfl
  · rename_i t parts ho
    split at h
    case h_2 => simp at h
    rename_i hok
    simp only [List.all_eq_true] at hok
    split at h
    case h_2 => simp at h
    rename_i cells hb
    have hps : (parts.map fun (p : Nat × Operand) => (p.1, a.eval p.2)).toList = parts.toList.map fun p => (p.1, ev tm p.2) := by
      simp only [Array.toList_map]
      refine List.map_congr_left fun p hpp => ?_
      rw [hx' p.2 (by simp only [ho, Op.operands, List.mem_toArray, List.mem_map]; exact ⟨p, hpp, rfl⟩), rl_plain (hok p hpp)]
    refine pvalue (.agg cells) rfl h ?_
    have := run_build (P := P) w t (parts.map fun (p : Nat × Operand) => (p.1, a.eval p.2)) cells (by rw [hps]; exact hb)
    simp only [execOp, ho]
    simp only [Sem.run_bind]
    have this' : (Instr.build t (parts.map fun (x : Nat × Operand) => match x with | (i, x) => (i, a.eval x))).run P w = .ok (.agg cells) w := this
    rw [this']
    rfl
  · rename_i t len parts ho
    split at h
    case h_2 => simp at h
    rename_i hok
    simp only [List.all_eq_true] at hok
    split at h
    case h_2 => simp at h
    rename_i e cells hb
    split at h
    case h_2 => simp at h
    rename_i hcells
    simp only [List.all_eq_true, Bool.and_eq_true] at hcells
    have hps : (parts.map fun (p : Nat × Operand) => (p.1, a.eval p.2)).toList = parts.toList.map fun p => (p.1, ev tm p.2) := by
      simp only [Array.toList_map]
      refine List.map_congr_left fun p hpp => ?_
      rw [hx' p.2 (by simp only [ho, Op.operands, List.mem_toArray, List.mem_map]; exact ⟨p, hpp, rfl⟩), rl_plain (hok p hpp)]
    obtain ⟨β', h1, h2, h3⟩ := hp.new cells e fun v hv => ⟨plain_inn (hcells v hv).1, (hcells v hv).2⟩
    have hcr : cells.map (rl β) = cells := by
      conv => rhs; rw [← Array.map_id cells]
      exact Array.map_congr_left fun x hxc => rl_plain (hcells x (by simpa using hxc)).1
    rw [hcr] at h3
    have hnext := hk _ _ _ β' _ h1 (by simp) (fun _ i hi => List.getElem?_append_left hi) (by simp [inn]) h3 h
    have := rowL_run (P := P) (t := t) (len := len) (parts := parts.map fun (p : Nat × Operand) => (p.1, a.eval p.2)) (by rw [hps]; exact hb) w
    have this' : (Instr.buildSlice t len (parts.map fun (x : Nat × Operand) => match x with | (i, x) => (i, a.eval x))).run P w = .ok (.slice (some ⟨w.heap.size, 0, none⟩) len len) { w with heap := w.heap.push (.cells cells e (0, 0)) } := this
    have hrl : rl β' (.slice (some ⟨σ.length, 0, none⟩) len len) = .slice (some ⟨w.heap.size, 0, none⟩) len len := by simp [rl, h2]
    rw [hrl] at hnext
    unfold Oper.wp
    simp only [execOp, ho, Sem.run_bind]
    rw [this']
    exact hnext
  · rename_i op t x y ty ho
    obtain ⟨v, h1, h2, h3⟩ := binL_run (n := n) ho hx' h
    exact pvalue v h1 h3 (h2 w)
  · rename_i f args ts ho
    have hf := hx' f (by simp [ho, Op.operands, Call.operands])
    have hfi := hin f (by simp [ho, Op.operands, Call.operands])
    split at h
    case h_2 => simp at h
    rename_i g first cap hv
    rw [hv] at hf hfi
    split at h
    case h_2 => simp at h
    rename_i hok
    simp only [Bool.and_eq_true, List.all_eq_true] at hok
    simp only [inn, Bool.and_eq_true, List.all_eq_true] at hfi
    have hina : ∀ x ∈ first.toList ++ args.toList.map (ev tm) ++ cap.toList, inn σ.length x = true := by
      intro x hxm
      have back : ∀ x, ok0 x = true → sc0 σ.length x = true → inn σ.length x = true := by
        intro x h1 h2
        cases x with
        | func fn u v =>
          simp only [ok0, Bool.and_eq_true, Array.isEmpty_iff] at h1
          obtain ⟨rfl, rfl⟩ := h1
          rfl
        | pointer a => cases a with
          | none => rfl
          | some a => exact h2
        | slice a l c => cases a with
          | none => rfl
          | some a => exact h2
        | _ => rfl
      simp only [List.mem_append, List.mem_map] at hxm
      rcases hxm with (hxm | ⟨y, hy, rfl⟩) | hxm
      · exact back x (hok.1 x hxm) (hfi.1 x hxm)
      · have hy' := Array.mem_toList_iff.1 hy
        exact hin y (by simp [ho, Op.operands, Call.operands, hy'])
      · exact back x (hok.2 x hxm) (hfi.2 x hxm)
    have hargs : ((first.map (rl0 β) ++ args.map a.eval) ++ cap.map (rl0 β)) = ((first.toList ++ args.toList.map (ev tm) ++ cap.toList).map (rl β)).toArray := by
      apply Array.ext'
      simp only [Array.toList_append, Array.toList_map, List.map_append, List.map_map]
      congr 1
      · congr 1
        · exact List.map_congr_left fun x hxm => (rl_ok0 (hok.1 x hxm)).symm
        · refine List.map_congr_left fun x hxm => ?_
          have hxm' := Array.mem_toList_iff.1 hxm
          exact hx' x (by simp [ho, Op.operands, Call.operands, hxm'])
      · exact List.map_congr_left fun x hxm => (rl_ok0 (hok.2 x hxm)).symm
    have hff : a.eval f = .func (.func g) (first.map (rl0 β)) (cap.map (rl0 β)) := by rw [hf]; rfl
    have hop : ∀ w, (execOp a.eval o).run P w = (callFunc g ((first.toList ++ args.toList.map (ev tm) ++ cap.toList).map (rl β)).toArray).run P w := by
      intro w
      rw [← hargs]
      simp only [execOp, ho, resolve, hff, Deferred.ofValue, Sem.run_bind, Sem.run_pure, Result.andThen_ok, invoke]
    obtain ⟨v, σ', kept, hKr, -, hG⟩ := hΦ.ok _ _ _ _ _ _ _ h
    rcases hG with ⟨hent, hcall⟩ | ⟨rfl, hx1, hx2, hx3⟩
    · have hrun : (execOp a.eval o).run P w = .ok (.enter g ((first.toList ++ args.toList.map (ev tm) ++ cap.toList).map (rl β)).toArray) w := by rw [hop, hent]
      unfold Oper.wp
      rw [hrun, Oper.upon_enter]
      refine (hcall σ0 W β0 β w rfl hp hina).mono ?_
      rintro e w' ⟨β', he, hle, hpre, rfl, hv', hp'⟩
      exact hk v σ' kept β' w' he hle hpre hv' hp' hKr
    · refine hk v σ' kept β w (fun _ _ => rfl) (Nat.le_refl _) (fun _ _ _ => rfl) (plain_inn hx2) hp hKr |> fun hn => ?_
      have hmap : (first.toList ++ args.toList.map (ev tm) ++ cap.toList).map (rl β) = first.toList ++ args.toList.map (ev tm) ++ cap.toList := by
        simp only [List.all_eq_true] at hx1
        conv => rhs; rw [← List.map_id (first.toList ++ args.toList.map (ev tm) ++ cap.toList)]
        exact List.map_congr_left fun x hx => rl_plain (hx1 x hx)
      have hrun : (execOp a.eval o).run P w = .ok (.value v) w := by rw [hop, hmap, hx3]
      unfold Oper.wp
      rw [hrun]
      rw [rl_plain hx2] at hn
      exact hn
  · rename_i b args ts ho
    split at h
    case h_2 => simp at h
    rename_i v hv
    have hargs : (args.map a.eval) = ((args.toList.map (ev tm)).map (rl β)).toArray := by
      apply Array.ext'
      simp only [Array.toList_map, List.map_map]
      refine List.map_congr_left fun x hxa => ?_
      have hxa' := Array.mem_toList_iff.1 hxa
      exact hx' x (by simp [ho, Op.operands, Call.operands, hxa'])
    have hb := fun cs => (builtinL_run (P := P) (w := w) (β := β) (ty := o.type) (cs := cs) hv)
    refine pvalue v (hb #[]).2 h ?_
    simp only [execOp, ho, resolve, Sem.run_bind, Sem.run_pure, Result.andThen_ok, invoke, hargs]
    exact (hb _).1
  · rename_i ho; exact genw (by rw [ho]; intro cs b hh; cases hh) h
  · rename_i ho; exact genw (by rw [ho]; intro cs b hh; cases hh) h
  · rename_i ho; exact genw (by rw [ho]; intro cs b hh; cases hh) h
  · rename_i ho; exact genw (by rw [ho]; intro cs b hh; cases hh) h
  · rename_i ho; exact genw (by rw [ho]; intro cs b hh; cases hh) h
  · simp at h


theorem binL_val {R : Type} {P : Program} {o : Oper} {tm : Env} {op : BinOp} {t : TypeId} {x y : Value} {K : Value → Option R} {r : R} (h : binL P o tm op t x y K = some r) :
    ∃ v, K v = some r ∧ ∀ (S : Type) (K' : Value → Option S), binL P o tm op t x y K' = K' v := by
  unfold binL at h
  (repeat' split at h) <;> first | (simp at h; done) | exact ⟨_, h, fun S K' => by unfold binL; simp only [*]⟩

theorem step_val {R : Type} {P : Program} {Φ : Tab} (hΦ : Φ.Ok P) {m : Nat} {o : Oper} {tm : Env} {σ : LH} {K : Value → LH → Bool → Option R} {r : R} (h : step P Φ m o tm σ K = some r) :
    ∃ v σ' b, K v σ' b = some r ∧ ∀ (S : Type) (K' : Value → LH → Bool → Option S), step P Φ m o tm σ K' = K' v σ' b := by
  unfold step at h
  split at h
  · simp at h
  rename_i hall
  split at h
  case h_14 =>
    rename_i ho
    obtain ⟨v, h1, h2⟩ := binL_val h
    refine ⟨v, σ, true, h1, fun S K' => ?_⟩
    unfold step
    simp only [hall]
    simp only [ho]
    exact h2 S fun v => K' v σ true
  all_goals (repeat' split at h) <;> first | (simp at h; done) | exact ⟨_, _, _, h, fun S K' => by unfold step; simp only [hall]; simp only [*]⟩ | (obtain ⟨v, σ', kept, hK, hS, -⟩ := hΦ.ok _ _ _ _ _ _ _ h; exact ⟨v, σ', kept, hK, fun S K' => by unfold step; simp only [hall]; simp only [*]⟩)


/-- An operation that leaves memory alone and looks only at what it is handed, whatever else there is. -/
def quiet (Φ : Tab) (tm : Env) (o : Oper) : Bool :=
  match o.op with
  | .call ⟨.value f, _, _⟩ => (match ev tm f with | .func (.func g) _ _ => Φ.free g | _ => false)
  | .store .. => false
  | .box .. => false
  | .alloc .. => false
  | .buildSlice .. => false
  | _ => true

theorem getElem?_ext {σ bs : LH} {i : Nat} {x : Blk} (h : σ[i]? = some x) : (σ ++ bs)[i]? = some x := by
  rw [List.getElem?_append_left (List.getElem?_eq_some_iff.1 h).1]
  exact h
theorem loadL_ext {P : Program} {t : TypeId} {p v : Value} {σ bs : LH} (h : loadL P t p σ = some v) : loadL P t p (σ ++ bs) = some v := by
  unfold loadL at h ⊢
  split at h
  case h_2 => simp at h
  split at h
  case h_2 => simp at h
  rename_i hs
  simp only [getElem?_ext hs]
  exact h

theorem step_good {R : Type} {P : Program} {Φ : Tab} {m : Nat} {o : Oper} {tm : Env} {σ : LH} {K : Value → LH → Bool → Option R} {r : R} {v : Value} (h : K v σ true = some r)
    (hh : ∀ (bs : LH) (S : Type) (K' : Value → LH → Bool → Option S), step P Φ m o tm (σ ++ bs) K' = K' v (σ ++ bs) true) :
    ∃ v, ∀ (bs : LH) (S : Type) (K' : Value → LH → Bool → Option S), step P Φ m o tm (σ ++ bs) K' = K' v (σ ++ bs) true := ⟨v, hh⟩

theorem step_mono {R : Type} {P : Program} {Φ : Tab} (hΦ : Φ.Ok P) {m : Nat} {o : Oper} {tm : Env} {σ : LH} {K : Value → LH → Bool → Option R} {r : R} (hq : quiet Φ tm o = true) (h : step P Φ m o tm σ K = some r) :
    ∃ v, ∀ (bs : LH) (S : Type) (K' : Value → LH → Bool → Option S), step P Φ m o tm (σ ++ bs) K' = K' v (σ ++ bs) true := by
  unfold step at h
  split at h
  · simp at h
  rename_i hall
  unfold quiet at hq
  split at h
  case h_14 =>
    rename_i ho
    obtain ⟨v, h1, h2⟩ := binL_val h
    refine ⟨v, fun bs S K' => ?_⟩
    unfold step
    simp only [hall]
    simp only [ho]
    exact h2 S fun v => K' v (σ ++ bs) true
  case h_15 =>
    rename_i f args ts ho
    rw [ho] at hq
    simp only [] at hq
    split at h
    case h_2 => simp at h
    rename_i g first cap hv
    rw [hv] at hq
    simp only [] at hq
    split at h
    case h_2 => simp at h
    rename_i hc
    obtain ⟨v, hf⟩ := hΦ.free _ _ _ _ _ _ _ hq h
    refine ⟨v, fun bs S K' => ?_⟩
    unfold step
    simp only [hall]
    simp only [ho, hv, hc]
    exact hf bs S K'
  case h_6 =>
    rename_i ho
    split at h
    case h_2 => simp at h
    rename_i v hl
    refine ⟨v, fun bs S K' => ?_⟩
    unfold step
    simp only [hall]
    simp only [ho, loadL_ext hl]
  all_goals (repeat' split at h) <;> first | (simp at h; done) | (rename_i ho; rw [ho] at hq; simp at hq; done) | exact step_good h (fun bs S K' => by unfold step; simp only [hall]; simp only [*]) | (exfalso; clear h; simp_all; done)

end Go.RX
