/- Regions: in the text's order, and in whatever order is drawn. -/
import Derived.Test.YtogpbandlpjccaaGreatDoorRxC
set_option linter.unusedSimpArgs false
set_option linter.unusedVariables false
namespace Go.RX
open Go.RowKit
def wantB (o : Oper) (ops : Array Oper) (tm : Env) : Bool :=
 match o.guard with
 | none => true
 | some (j, want) =>
  match (ops.toList[j]?).bind (·.dst) with
  | some d => (match look tm d with | .bool b => b == want | _ => false)
  | none => false
def guardK {R : Type} (o : Oper) (ops : Array Oper) (tm : Env) (yes no : Env → Option R) : Option R :=
 match o.guard with
 | none => yes tm
 | some (j, want) =>
  match (ops.toList[j]?).bind (·.dst) with
  | some d =>
   (match has tm d with
   | true =>
    (match look tm d with
    | .bool b => (match b with
     | true => (match want with | true => yes ((d, .bool true) :: tm) | false => no ((d, .bool true) :: tm))
     | false => (match want with | true => no ((d, .bool false) :: tm) | false => yes ((d, .bool false) :: tm)))
    | _ => no tm)
   | false => none)
  | none => no tm
def Alike (tm1 tm : Env) : Prop := (∀ t, look tm1 t = look tm t) ∧ (∀ p ∈ tm1, p ∈ tm ∨ ∃ b, p.2 = .bool b) ∧ ∀ t, has tm1 t = has tm t
theorem has_of_look {tm : Env} {t : Nat} {b : Bool} (h : look tm t = .bool b) : has tm t = true := by
 induction tm with
 | nil => simp [look, undef] at h
 | cons p r ih =>
  obtain ⟨k, v⟩ := p
  simp only [look] at h
  simp only [has]
  split
  ·rfl
  ·rename_i hb
   rw [hb] at h
   exact ih h
theorem Alike.refl (tm : Env) : Alike tm tm := ⟨fun _ => rfl, fun _ h => Or.inl h, fun _ => rfl⟩
theorem Alike.told {tm : Env} {d : Nat} {b : Bool} (h : look tm d = .bool b) : Alike ((d, .bool b) :: tm) tm := by
 refine ⟨fun t => ?_, fun p hp => ?_, fun t => ?_⟩
 ·simp only [look]
  cases hb : Nat.beq d t with
  | true => rw [← Nat.eq_of_beq_eq_true hb]; exact h.symm
  | false => rfl
 ·rcases List.mem_cons.1 hp with rfl | hp
  ·exact Or.inr ⟨b, rfl⟩
  ·exact Or.inl hp
 ·simp only [has]
  cases hb : Nat.beq d t with
  | true => rw [← Nat.eq_of_beq_eq_true hb]; exact (has_of_look h).symm
  | false => rfl
theorem Alike.inn {tm1 tm : Env} {n : Nat} (h : Alike tm1 tm) (hi : ∀ p ∈ tm, inn n p.2 = true) : ∀ p ∈ tm1, inn n p.2 = true := fun p hp => by
 rcases h.2.1 p hp with h1 | ⟨b, hb⟩
 ·exact hi p h1
 ·rw [hb]; rfl
theorem Alike.fr {tm1 tm : Env} {n : Nat} {β : Nat → Pl} {a : Act} (h : Alike tm1 tm) (hf : Fr n β tm a) : Fr n β tm1 a := ⟨hf.size, fun t ht => by rw [h.1 t]; exact hf.val t (by rw [← h.2.2 t]; exact ht), hf.defers⟩
theorem Alike.ev {tm1 tm : Env} (h : Alike tm1 tm) (x : Operand) : ev tm1 x = ev tm x := by
 cases x with
 | tmp t => exact h.1 t
 | _ => rfl
theorem Alike.ok {tm1 tm : Env} (h : Alike tm1 tm) (x : Operand) : evOk tm1 x = evOk tm x := by
 cases x with
 | tmp t => exact h.2.2 t
 | _ => rfl
def Guarded (o : Oper) (ops : Array Oper) (tm : Env) : Prop := ∀ j want d, o.guard = some (j, want) → (ops.toList[j]?).bind (·.dst) = some d → has tm d = true
theorem guardK_eq {R : Type} {o : Oper} {ops : Array Oper} {tm : Env} {yes no : Env → Option R} {r : R} (h : guardK o ops tm yes no = some r) :
  ∃ tm1, Alike tm1 tm ∧ Guarded o ops tm ∧ (wantB o ops tm = true → yes tm1 = some r) ∧ (wantB o ops tm = false → no tm1 = some r) := by
 unfold guardK at h
 unfold wantB Guarded
 cases hg : o.guard with
 | none =>
  simp only [hg] at h
  exact ⟨tm, Alike.refl tm, fun j want d hh => by simp at hh, fun _ => h, fun hh => by simp at hh⟩
 | some p =>
  obtain ⟨j, want⟩ := p
  simp only [hg] at h ⊢
  cases hd : (ops.toList[j]?).bind (·.dst) with
  | none =>
   simp only [hd] at h
   exact ⟨tm, Alike.refl tm, fun j' want' d' h1 h2 => (by simp only [Option.some.injEq, Prod.mk.injEq] at h1; obtain ⟨rfl, rfl⟩ := h1; rw [hd] at h2; cases h2), fun hh => by simp at hh, fun _ => h⟩
  | some d =>
   simp only [hd] at h ⊢
   cases hh : has tm d with
   | false => simp [hh] at h
   | true =>
    simp only [hh] at h
    have hG : ∀ (j' : Nat) (want' : Bool) (d' : Nat), some (j, want) = some (j', want') → (ops.toList[j']?).bind (·.dst) = some d' → has tm d' = true := by
     intro j' want' d' h1 h2
     simp only [Option.some.injEq, Prod.mk.injEq] at h1
     obtain ⟨rfl, rfl⟩ := h1
     rw [hd] at h2
     simp only [Option.some.injEq] at h2
     subst h2
     exact hh
    cases hl : look tm d with
    | bool b =>
     simp only [hl] at h
     refine ⟨(d, .bool b) :: tm, Alike.told hl, hG, ?_⟩
     cases b <;> cases want <;> simp_all
    | _ =>
     simp only [hl] at h
     exact ⟨tm, Alike.refl tm, hG, fun hh => by simp at hh, fun _ => h⟩
theorem wanted_of {n : Nat} {β : Nat → Pl} {tm : Env} {a : Act} {o : Oper} {ops : Array Oper} (hs : a.tmps.size = n)
  (h : ∀ j want d, o.guard = some (j, want) → (ops.toList[j]?).bind (·.dst) = some d → a.tmps.getD d undef = rl β (look tm d)) :
  Region.wanted o (yielded ops a.tmps) = wantB o ops tm := by
 unfold Region.wanted wantB
 cases hg : o.guard with
 | none => rfl
 | some p =>
  obtain ⟨j, want⟩ := p
  simp only []
  unfold yielded
  rw [← Array.getElem?_toList]
  cases hd : (ops.toList[j]?).bind (·.dst) with
  | none => simp
  | some d =>
   have hv := h j want d hg hd
   simp only [Option.bind_some]
   by_cases hlt : d < a.tmps.size
   ·have : a.tmps[d]? = some (rl β (look tm d)) := by
     rw [Array.getElem?_eq_getElem hlt]
     rw [← hv]
     simp [Array.getD, hlt]
    rw [this]
    cases hl : look tm d with
    | bool b => simp [rl]
    | pointer p => cases p <;> simp [rl]
    | slice p l c => cases p with
     | none => simp [rl]
     | some a => cases hsp : a.spot <;> simp [rl, mvS, hsp]
    | _ => simp [rl]
   ·rw [Array.getElem?_eq_none (Nat.le_of_not_lt hlt)]
    have : rl β (look tm d) = undef := by
     rw [← hv]
     simp [Array.getD, hlt]
    cases hl : look tm d with
    | bool b => rw [hl] at this; simp [rl, undef] at this
    | _ => simp
structure St (σ0 : LH) (W : World) (β0 : Nat → Pl) (n nb : Nat) (βb β : Nat → Pl) (tm : Env) (σ : LH) (a : Act) (w : World) : Prop where
 fr : Fr n β tm a
 env : ∀ p ∈ tm, inn σ.length p.2 = true
 hp : Hp σ0 W β0 β σ w
 nle : nb ≤ σ.length
 bext : ∀ i, i < nb → β i = βb i
theorem St.wanted {σ0 σ : LH} {W w : World} {β0 β βb : Nat → Pl} {n nb : Nat} {tm : Env} {a : Act} (h : St σ0 W β0 n nb βb β tm σ a w) (o : Oper) (ops : Array Oper) (hg : Guarded o ops tm) :
  Region.wanted o (yielded ops a.tmps) = wantB o ops tm := wanted_of h.fr.size fun j want d h1 h2 => h.fr.val d (hg j want d h1 h2)
def evOps {R : Type} (P : Program) (Φ : Tab) (m n : Nat) (ops : Array Oper) : List Oper → Env → LH → (Env → LH → Option R) → Option R
 | [], tm, σ, K => K tm σ
 | o :: rest, tm, σ, K =>
  guardK o ops tm
   (fun tm => step P Φ m o tm σ fun v σ' _ => match put n o.dst v tm with | some tm' => evOps P Φ m n ops rest tm' σ' K | none => none)
   (fun tm => match put n o.dst undef tm with | some tm' => evOps P Φ m n ops rest tm' σ K | none => none)
theorem drop_cons {ops : Array Oper} {k : Nat} {o : Oper} {rest : List Oper} (h : ops.toList.drop k = o :: rest) : ops[k]? = some o ∧ ops.toList.drop (k + 1) = rest ∧ k < ops.size := by
 have h1 : ops.toList[k]? = some o := by
  have := List.getElem?_drop (xs := ops.toList) (i := k) (j := 0)
  rw [h] at this
  simpa using this.symm
 refine ⟨by rw [← Array.getElem?_toList]; exact h1, ?_, ?_⟩
 ·rw [← List.drop_drop, h]; rfl
 ·have := (List.getElem?_eq_some_iff.1 h1).1
  simpa using this
theorem evOps_run {R : Type} {P : Program} {Φ : Tab} {W : World} (hΦ : Φ.Ok P W) {σ0 : LH} {β0 βb : Nat → Pl} {n nb : Nat} {ops : Array Oper} {K : Env → LH → Option R} {r : R} {Q : Exit → Act → World → Prop}
  (hK : ∀ tm' σ' β' a' w', St σ0 W β0 n nb βb β' tm' σ' a' w' → K tm' σ' = some r → Q .normal a' w') :
  ∀ (l : List Oper) (k : Nat) (tm : Env) (σ : LH) (β : Nat → Pl) (a : Act) (w : World), ops.toList.drop k = l → St σ0 W β0 n nb βb β tm σ a w → evOps P Φ σ0.length n ops l tm σ K = some r →
   wpOps P ops Q (List.range' k (ops.size - k)) a w := by
 intro l
 induction l with
 | nil =>
  intro k tm σ β a w hd hs h
  have : ops.size - k = 0 := by
   have := congrArg List.length hd
   simp at this
   omega
  rw [this]
  exact hK tm σ β a w hs h
 | cons o rest ih =>
  intro k tm σ β a w hd hs h
  obtain ⟨h1, h2, h3⟩ := drop_cons hd
  rw [show ops.size - k = (ops.size - (k + 1)) + 1 by omega, List.range'_succ]
  rw [evOps] at h
  obtain ⟨tm1, hal, hgd, hyes, hno⟩ := guardK_eq h
  simp only [wpOps, h1, hs.wanted o ops hgd]
  have hs1 : St σ0 W β0 n nb βb β tm1 σ a w := ⟨hal.fr hs.fr, hal.inn hs.env, hs.hp, hs.nle, hs.bext⟩
  by_cases hw : wantB o ops tm = true
  ·simp only [hw, if_true]
   refine Or.inl (step_run (n := n) hΦ (fun x hx hok => hs1.fr.eval hok) (fun x hx hok => ev_inn hs1.env hok) hs1.hp (hyes hw) ?_)
   intro v σ' kept β' w' hb hle _ hv hp' hk
   split at hk
   case h_2 => simp at hk
   rename_i tm' htm
   have hfr := (hs1.fr.ext hs1.env hb).put htm
   exact ih (k + 1) tm' σ' β' _ w' h2 ⟨hfr, put_inn (fun p hp => inn_mono hle (hs1.env p hp)) hv htm, hp', Nat.le_trans hs1.nle hle, fun i hi => by rw [hb i (Nat.lt_of_lt_of_le hi hs1.nle)]; exact hs1.bext i hi⟩ hk
  ·have hw' : wantB o ops tm = false := by simpa using hw
   simp only [hw', Bool.false_eq_true, if_false]
   have h' := hno hw'
   split at h'
   case h_2 => simp at h'
   rename_i tm' htm
   have hfr := hs1.fr.put htm
   rw [rl_undef] at hfr
   exact ih (k + 1) tm' σ β _ w h2 ⟨hfr, put_inn hs1.env rfl htm, hs1.hp, hs1.nle, hs1.bext⟩ h'
def reads (ops : Array Oper) (o : Oper) : List Nat :=
 (o.op.operands.toList.filterMap fun | .tmp t => some t | _ => none) ++
 (match o.guard with
  | some (g, _) => ((ops.toList[g]?).bind (·.dst)).toList
  | none => [])
def reachN (ops : Array Oper) : Nat → Oper → Nat → Bool
 | 0, _, _ => false
 | k + 1, s, i => (s.after.toList.any fun e => Nat.beq e.on i && Region.binds .any e) || (s.after.toList.any fun e => Region.binds .any e && match ops.toList[e.on]? with | some o => reachN ops k o i | none => false)
theorem reached {ops : Array Oper} {L : Array Bool} (hcl : ∀ (i : Nat) (o : Oper), ops[i]? = some o → L.getD i false = true → ∀ e ∈ o.after, Region.binds .any e = true → L.getD e.on false = true) :
  ∀ (k : Nat) (s : Oper) (i : Nat), (∀ e ∈ s.after, Region.binds .any e = true → L.getD e.on false = true) → reachN ops k s i = true → L.getD i false = true := by
 intro k
 induction k with
 | zero => intro s i _ h; simp [reachN] at h
 | succ k ih =>
  intro s i hs h
  simp only [reachN, Bool.or_eq_true, List.any_eq_true, Bool.and_eq_true] at h
  rcases h with ⟨e, he, h, hb⟩ | ⟨e, he, hb, h⟩
  ·rw [← Nat.eq_of_beq_eq_true h]; exact hs e (by simpa using he) hb
  ·have hl := hs e (by simpa using he) hb
   split at h
   ·rename_i o ho
    rw [Array.getElem?_toList] at ho
    exact ih o i (hcl e.on o ho hl) h
   ·simp at h
def waits (ops : Array Oper) (o : Oper) (j : Nat) : Bool := (List.range j).all fun k => reachN ops 6 o k
def preN (ops : Array Oper) : Nat := ops.toList.zipIdx.foldl (fun p q => match waits ops q.1 q.2 with | true => p | false => q.2 + 1) 0
def opOk (ops : Array Oper) (p j : Nat) (o : Oper) : Bool :=
 (o.after.toList.all fun e => !Region.binds .any e || Nat.blt e.on j) &&
 (match Nat.blt j p with
 | true => ((ops.toList.take p).zipIdx.all fun q => match q.1.dst with
  | some d =>
   (!(reads ops o).contains d || (Nat.blt q.2 j && o.after.toList.any fun e => Nat.beq e.on q.2 && Region.binds .any e)) &&
   (Nat.beq q.2 j || !(o.dst == some d))
  | none => true)
 | false => waits ops o j)
def drawOk (ops : Array Oper) : Bool := Nat.ble (preN ops) ops.toList.length && ops.toList.zipIdx.all fun q => opOk ops (preN ops) q.2 q.1
def isSp : Op → Bool
 | .alloc _ => true
 | .store .. => true
 | _ => false
def waitsOn (s : Oper) (i : Nat) : Bool := s.after.toList.any fun e => Nat.beq e.on i && Region.binds .any e
def spOf (ops : Array Oper) : Option Oper := (ops.toList.take (preN ops)).find? fun o => isSp o.op
def isAlo : Op → Bool
 | .alloc _ => true
 | _ => false
def besides (ops : Array Oper) (Φ : Tab) (sp : Option Oper) (tm : Env) (i : Nat) (o : Oper) : Bool :=
 match sp with
 | none => true
 | some s => match waitsOn s i with
  | true => true
  | false => (match (match isAlo s.op with
   | true => quiet Φ tm o
   | false => freeOp tm o) with
   | true => true
   | false => reachN ops 4 s i)
def evDraw {R : Type} (P : Program) (Φ : Tab) (m n : Nat) (ops : Array Oper) (sp : Option Oper) : List Oper → Nat → Env → LH → Option LH → (Env → LH → Option R) → Option R
 | [], _, tm, σ, E, K => K tm (E.getD σ)
 | o :: rest, i, tm, σ, E, K => match isSp o.op with
  | true => (match E with
   | none => (match o.guard with
    | none => step P Φ m o tm σ fun v σ' _ => match Nat.ble σ.length σ'.length with
     | true => (match put n o.dst v tm with
      | some tm' => evDraw P Φ m n ops sp rest (i + 1) tm' σ (some σ') K
      | none => none)
     | false => none
    | some _ => none)
   | some _ => none)
  | false => guardK o ops tm
   (fun tm => match besides ops Φ sp tm i o with
    | true => step P Φ m o tm σ fun v σ' b => match b && Nat.beq σ'.length σ.length with
     | true => (match put n o.dst v tm with | some tm' => evDraw P Φ m n ops sp rest (i + 1) tm' σ E K | none => none)
     | false => none
    | false => none)
   (fun tm => match put n o.dst undef tm with | some tm' => evDraw P Φ m n ops sp rest (i + 1) tm' σ E K | none => none)
structure Did (P : Program) (Φ : Tab) (m n : Nat) (ops : Array Oper) (sp : Option Oper) (σ : LH) (E : Option LH) (i : Nat) (o : Oper) (tm tm' : Env) (v : Value) : Prop where
 put : ∃ tm1, Alike tm1 tm ∧ put n o.dst v tm1 = some tm'
 yes : isSp o.op = false → wantB o ops tm = true → ∃ tm1 σ', Alike tm1 tm ∧ σ'.length = σ.length ∧ (∀ (S : Type) (K : Value → LH → Bool → Option S), step P Φ m o tm1 σ K = K v σ' true) ∧
  (∀ s, sp = some s → (waitsOn s i = true ∨ reachN ops 4 s i = true) ∨ (isAlo s.op = true ∧ ∀ (bs : LH) (S : Type) (K : Value → LH → Bool → Option S), step P Φ m o tm1 (σ ++ bs) K = K v (σ ++ bs) true) ∨
   (∀ (σ2 : LH) (S : Type) (K : Value → LH → Bool → Option S), step P Φ m o tm1 σ2 K = K v σ2 true))
 gd : Guarded o ops tm
 no : isSp o.op = false → wantB o ops tm = false → v = undef
 spc : isSp o.op = true → o.guard = none ∧ ∃ σ1 b, E = some σ1 ∧ σ.length ≤ σ1.length ∧ ∀ (S : Type) (K : Value → LH → Bool → Option S), step P Φ m o tm σ K = K v σ1 b
theorem evDraw_trace {R : Type} {P : Program} {Φ : Tab} {W : World} (hΦ : Φ.Ok P W) {m n : Nat} {ops : Array Oper} {sp : Option Oper} {σ : LH} {K : Env → LH → Option R} {r : R} :
  ∀ (l : List Oper) (i0 : Nat) (tm : Env) (E : Option LH), evDraw P Φ m n ops sp l i0 tm σ E K = some r →
   ∃ (tms : Nat → Env) (vs : Nat → Value) (E' : Option LH), tms 0 = tm ∧ (∀ i o, l[i]? = some o → Did P Φ m n ops sp σ E' (i0 + i) o (tms i) (tms (i + 1)) (vs i)) ∧ K (tms l.length) (E'.getD σ) = some r ∧
    (∀ (i : Nat) (o : Oper), l[i]? = some o → isSp o.op = true → E = none ∧ ∀ (j : Nat) (o' : Oper), l[j]? = some o' → isSp o'.op = true → j = i) ∧
    ((∀ (i : Nat) (o : Oper), l[i]? = some o → isSp o.op = false) → E' = E) := by
 intro l
 induction l with
 | nil => intro i0 tm E h; exact ⟨fun _ => tm, fun _ => undef, E, rfl, fun i o hi => by simp at hi, h, fun i o hi => by simp at hi, fun _ => rfl⟩
 | cons o rest ih =>
  intro i0 tm E h
  rw [evDraw.eq_def] at h
  simp only [] at h
  cases hsp : isSp o.op with
  | true =>
   simp only [hsp] at h
   cases E with
   | some E0 => simp at h
   | none =>
   cases hg : o.guard with
   | some g => simp [hg] at h
   | none =>
   simp only [hg] at h
   obtain ⟨v, σ1, b, h1, h2⟩ := step_val hΦ h
   split at h1
   case h_2 => simp at h1
   rename_i hl
   split at h1
   case h_2 => simp at h1
   rename_i tm' htm
   obtain ⟨tms, vs, E', g0, g1, g2, g3, g4⟩ := ih (i0 + 1) tm' (some σ1) h1
   have hnone : ∀ (i : Nat) (o' : Oper), rest[i]? = some o' → isSp o'.op = false := by
    intro i o' hi
    cases hc : isSp o'.op with
    | false => rfl
    | true => exact absurd (g3 i o' hi hc).1 (by simp)
   have hE := g4 hnone
   refine ⟨fun i => match i with | 0 => tm | i + 1 => tms i, fun i => match i with | 0 => v | i + 1 => vs i, E', rfl, fun i oi hi => ?_, g2, fun i oi hi ht => ?_, fun hno => ?_⟩
   ·cases i with
    | zero =>
     simp only [List.getElem?_cons_zero, Option.some.injEq] at hi
     subst hi
     simp only []
     rw [g0]
     exact ⟨⟨tm, Alike.refl tm, htm⟩, fun hh => (by rw [hsp] at hh; cases hh), fun j want d hj => (by rw [hg] at hj; cases hj), fun hh => (by rw [hsp] at hh; cases hh), fun _ => ⟨hg, σ1, b, hE, Nat.le_of_ble_eq_true hl, h2⟩⟩
    | succ i =>
     have := g1 i oi (by simpa using hi)
     rw [show i0 + (i + 1) = i0 + 1 + i by omega]
     exact this
   ·cases i with
    | zero =>
     refine ⟨rfl, fun j o' hj hc => ?_⟩
     cases j with
     | zero => rfl
     | succ j => rw [hnone j o' (by simpa using hj)] at hc; cases hc
    | succ i => rw [hnone i oi (by simpa using hi)] at ht; cases ht
   ·have := hno 0 o rfl
    rw [hsp] at this
    cases this
  | false =>
   simp only [hsp] at h
   obtain ⟨tm1, halk, hgd, hyes, hno⟩ := guardK_eq h
   have nosp : isSp o.op = true → ∀ (X : Prop), X := fun hh => by rw [hsp] at hh; cases hh
   have key : ∃ v tm', (∀ E', Did P Φ m n ops sp σ E' i0 o tm tm' v) ∧ evDraw P Φ m n ops sp rest (i0 + 1) tm' σ E K = some r := by
    by_cases hw : wantB o ops tm = true
    ·have hy := hyes hw
     split at hy
     case h_2 => simp at hy
     rename_i hq
     obtain ⟨v, σ', b, h1, h2⟩ := step_val hΦ hy
     split at h1
     case h_2 => simp at h1
     rename_i hl
     simp only [Bool.and_eq_true] at hl
     obtain ⟨rfl, hl⟩ := hl
     split at h1
     case h_2 => simp at h1
     rename_i tm' htm
     refine ⟨v, tm', fun E' => ⟨⟨tm1, halk, htm⟩, fun _ _ => ⟨tm1, σ', halk, Nat.eq_of_beq_eq_true hl, h2, fun s hs => ?_⟩, hgd, fun _ hf => by simp [hw] at hf, fun hh => nosp hh _⟩, h1⟩
     subst hs
     unfold besides at hq
     simp only [] at hq
     split at hq
     ·rename_i hwt; exact Or.inl (Or.inl hwt)
     split at hq
     case h_2 => exact Or.inl (Or.inr hq)
     rename_i hq2
     clear hq
     split at hq2
     ·rename_i hal
      obtain ⟨v', hv'⟩ := step_mono hΦ hq2 hy
      have e1 := hv' [] (Value × LH × Bool) fun v σ' b => some (v, σ', b)
      rw [List.append_nil, h2] at e1
      simp only [Option.some.injEq, Prod.mk.injEq] at e1
      obtain ⟨rfl, _, _⟩ := e1
      exact Or.inr (Or.inl ⟨hal, hv'⟩)
     ·obtain ⟨v', hv'⟩ := step_free hq2 hy
      have e1 := hv' σ (Value × LH × Bool) fun v σ' b => some (v, σ', b)
      rw [h2] at e1
      simp only [Option.some.injEq, Prod.mk.injEq] at e1
      obtain ⟨rfl, _, _⟩ := e1
      exact Or.inr (Or.inr hv')
    ·have hw' : wantB o ops tm = false := by simpa using hw
     have h' := hno hw'
     split at h'
     case h_2 => simp at h'
     rename_i tm' htm
     exact ⟨undef, tm', fun E' => ⟨⟨tm1, halk, htm⟩, fun _ hf => by simp [hw'] at hf, hgd, fun _ _ => rfl, fun hh => nosp hh _⟩, h'⟩
   obtain ⟨v, tm', hd, hr⟩ := key
   obtain ⟨tms, vs, E', g0, g1, g2, g3, g4⟩ := ih (i0 + 1) tm' E hr
   refine ⟨fun i => match i with | 0 => tm | i + 1 => tms i, fun i => match i with | 0 => v | i + 1 => vs i, E', rfl, fun i oi hi => ?_, g2, fun i oi hi ht => ?_, fun hn => g4 fun i oi hi => hn (i + 1) oi (by simpa using hi)⟩
   ·cases i with
    | zero =>
     simp only [List.getElem?_cons_zero, Option.some.injEq] at hi
     subst hi
     simp only []
     rw [g0]
     exact hd E'
    | succ i =>
     have := g1 i oi (by simpa using hi)
     rw [show i0 + (i + 1) = i0 + 1 + i by omega]
     exact this
   ·cases i with
    | zero =>
     simp only [List.getElem?_cons_zero, Option.some.injEq] at hi
     subst hi
     rw [hsp] at ht
     cases ht
    | succ i =>
     obtain ⟨e1, e4⟩ := g3 i oi (by simpa using hi) ht
     refine ⟨e1, fun j o' hj hc => ?_⟩
     cases j with
     | zero =>
      simp only [List.getElem?_cons_zero, Option.some.injEq] at hj
      subst hj
      rw [hsp] at hc
      cases hc
     | succ j => exact congrArg (· + 1) (e4 j o' (by simpa using hj) hc)
theorem look_put {n : Nat} {dst : Option Nat} {v : Value} {tm tm' : Env} (h : put n dst v tm = some tm') (t : Nat) : (dst = some t → look tm' t = v) ∧ (dst ≠ some t → look tm' t = look tm t) := by
 cases dst with
 | none => simp only [put, Option.some.injEq] at h; subst h; exact ⟨fun h => by simp at h, fun _ => rfl⟩
 | some d =>
  simp only [put] at h
  split at h
  case h_2 => simp at h
  simp only [Option.some.injEq] at h
  subst h
  refine ⟨fun hd => ?_, fun hd => ?_⟩
  ·simp only [Option.some.injEq] at hd
   subst hd
   simp [look, Nat.beq_refl]
  ·have : Nat.beq d t = false := by
    cases hb : Nat.beq d t
    ·rfl
    ·exact absurd (congrArg some (Nat.eq_of_beq_eq_true hb)) hd
   simp [look, this]
theorem has_put {n : Nat} {dst : Option Nat} {v : Value} {tm tm' : Env} (h : put n dst v tm = some tm') {t : Nat} (ht : has tm' t = true) : dst = some t ∨ has tm t = true := by
 cases dst with
 | none => simp only [put, Option.some.injEq] at h; subst h; exact Or.inr ht
 | some d =>
  simp only [put] at h
  split at h
  case h_2 => simp at h
  simp only [Option.some.injEq] at h
  subst h
  simp only [has] at ht
  split at ht
  ·rename_i hb; exact Or.inl (congrArg some (Nat.eq_of_beq_eq_true hb))
  ·exact Or.inr ht
theorem Did.has {P : Program} {Φ : Tab} {m n : Nat} {ops : Array Oper} {sp : Option Oper} {σ : LH} {E : Option LH} {i : Nat} {o : Oper} {tm tm' : Env} {v : Value} (h : Did P Φ m n ops sp σ E i o tm tm' v) {t : Nat} (ht : has tm' t = true) : o.dst = some t ∨ has tm t = true := by
 obtain ⟨tm1, hal, hp⟩ := h.put
 rcases has_put hp ht with h1 | h1
 ·exact Or.inl h1
 ·exact Or.inr (by rw [← hal.2.2 t]; exact h1)
theorem Did.look {P : Program} {Φ : Tab} {m n : Nat} {ops : Array Oper} {sp : Option Oper} {σ : LH} {E : Option LH} {i : Nat} {o : Oper} {tm tm' : Env} {v : Value} (h : Did P Φ m n ops sp σ E i o tm tm' v) (t : Nat) :
  (o.dst = some t → look tm' t = v) ∧ (o.dst ≠ some t → look tm' t = look tm t) := by
 obtain ⟨tm1, hal, hp⟩ := h.put
 exact ⟨(look_put hp t).1, fun hne => by rw [(look_put hp t).2 hne, hal.1 t]⟩
structure OpFacts (ops : Array Oper) (p : Nat) : Prop where
 le : p ≤ ops.size
 edge : ∀ (j : Nat) (o : Oper), ops[j]? = some o → ∀ e ∈ o.after, Region.binds .any e = true → e.on < j
 read : ∀ (i j : Nat) (q o : Oper), i < p → j < p → ops[i]? = some q → ops[j]? = some o → ∀ t, q.dst = some t → t ∈ reads ops o → i < j ∧ ∃ e ∈ o.after, e.on = i ∧ Region.binds .any e = true
 once : ∀ (i j : Nat) (q o : Oper), i < p → j < p → ops[i]? = some q → ops[j]? = some o → ∀ t, q.dst = some t → o.dst = some t → i = j
 tail : ∀ (j : Nat) (o : Oper), p ≤ j → ops[j]? = some o → ∀ k, k < j → reachN ops 6 o k = true
theorem drawOk_facts {ops : Array Oper} (h : drawOk ops = true) : OpFacts ops (preN ops) := by
 simp only [drawOk, Bool.and_eq_true] at h
 obtain ⟨hle, h⟩ := h
 have hle' : preN ops ≤ ops.size := by have := Nat.le_of_ble_eq_true hle; simpa using this
 have hz : ∀ (j : Nat) (o : Oper), ops[j]? = some o → opOk ops (preN ops) j o = true := by
  intro j o hj
  simp only [List.all_eq_true] at h
  refine h (o, j) ?_
  rw [List.mem_zipIdx_iff_getElem?]
  rw [← Array.getElem?_toList] at hj
  exact hj
 have hp : ∀ (i j : Nat) (q o : Oper), i < preN ops → j < preN ops → ops[i]? = some q → ops[j]? = some o → ∀ t, q.dst = some t →
   (!(reads ops o).contains t || (Nat.blt i j && o.after.toList.any fun e => Nat.beq e.on i && Region.binds .any e)) = true ∧ (Nat.beq i j || !(o.dst == some t)) = true := by
  intro i j q o hip hjp hi hj t ht
  have := hz j o hj
  simp only [opOk, Bool.and_eq_true, List.all_eq_true] at this
  have hb : Nat.blt j (preN ops) = true := Nat.ble_eq_true_of_le hjp
  have h1 := this.2
  rw [hb] at h1
  simp only [List.all_eq_true] at h1
  have h2 := h1 (q, i) (by
   rw [List.mem_zipIdx_iff_getElem?]
   rw [← Array.getElem?_toList] at hi
   rw [List.getElem?_take_of_lt hip]
   exact hi)
  simp only [ht, Bool.and_eq_true] at h2
  exact h2
 refine ⟨hle', fun j o hj e he hb => ?_, fun i j q o hip hjp hi hj t ht hr => ?_, fun i j q o hip hjp hi hj t ht ho => ?_, fun j o hpj hj k hk => ?_⟩
 ·have := hz j o hj
  simp only [opOk, Bool.and_eq_true, List.all_eq_true] at this
  have h2 := this.1 e (by simpa using he)
  simp only [hb, Bool.not_true, Bool.false_or] at h2
  exact Nat.le_of_ble_eq_true h2
 ·have := (hp i j q o hip hjp hi hj t ht).1
  have hc : (reads ops o).contains t = true := by simpa using hr
  simp only [hc, Bool.not_true, Bool.false_or, Bool.and_eq_true, List.any_eq_true] at this
  obtain ⟨h1, e, he, hb⟩ := this
  exact ⟨Nat.le_of_ble_eq_true h1, e, by simpa using he, Nat.eq_of_beq_eq_true hb.1, hb.2⟩
 ·have := (hp i j q o hip hjp hi hj t ht).2
  rw [ho] at this
  simp only [beq_self_eq_true, Bool.not_true, Bool.or_false] at this
  exact Nat.eq_of_beq_eq_true this
 ·have := hz j o hj
  simp only [opOk, Bool.and_eq_true, List.all_eq_true] at this
  have hb : Nat.blt j (preN ops) = false := by
   cases hbb : Nat.blt j (preN ops)
   ·rfl
   ·have := Nat.le_of_ble_eq_true hbb; omega
  have h1 := this.2
  rw [hb] at h1
  simp only [waits, List.all_eq_true, List.mem_range] at h1
  exact h1 k hk
theorem evTail_run {R : Type} {P : Program} {Φ : Tab} {W : World} (hΦ : Φ.Ok P W) {σ0 : LH} {β0 βb : Nat → Pl} {n nb p : Nat} {ops : Array Oper} {K : Env → LH → Option R} {r : R} {Q : Exit → Act → World → Prop}
  (hfe : ∀ (j : Nat) (o : Oper), ops[j]? = some o → ∀ e ∈ o.after, Region.binds .any e = true → e.on < j)
  (hft : ∀ (j : Nat) (o : Oper), p ≤ j → ops[j]? = some o → ∀ k, k < j → reachN ops 6 o k = true)
  (hK : ∀ tm' σ' β' a' w', St σ0 W β0 n nb βb β' tm' σ' a' w' → K tm' σ' = some r → Q .normal a' w') :
  ∀ (l : List Oper) (k fuel : Nat) (L : Array Bool) (tm : Env) (σ : LH) (β : Nat → Pl) (a : Act) (w : World), ops.toList.drop k = l → p ≤ k → L.size = ops.size → (∀ i, i < k → i < ops.size → L.getD i false = true) → (∀ i, k ≤ i → i < ops.size → L.getD i false = false) →
   ops.size - k ≤ fuel → St σ0 W β0 n nb βb β tm σ a w → evOps P Φ σ0.length n ops l tm σ K = some r → wpAny P .any ops Q fuel L a w := by
 have notReady : ∀ (L : Array Bool) (j : Nat), L.size = ops.size → j ∈ Region.ready .any ops L → j < ops.size ∧ L.getD j false = false := by
  intro L j hL hj
  obtain ⟨h1, o, ho, _⟩ := mem_ready.1 hj
  have hlt : j < ops.size := (Array.getElem?_eq_some_iff.1 ho).1
  refine ⟨hlt, ?_⟩
  simpa [Array.getD, hL, hlt] using h1
 intro l
 induction l with
 | nil =>
  intro k fuel L tm σ β a w hd hpk hL hdone hun hf hs h
  have hk : ops.size ≤ k := by
   have := congrArg List.length hd
   simp at this
   omega
  have hall : ∀ i, i < ops.size → L.getD i false = true := fun i hi => hdone i (by omega) hi
  have hno : ∀ j, ¬ j ∈ Region.ready .any ops L := fun j hj => by
   obtain ⟨h1, h2⟩ := notReady L j hL hj
   rw [hall j h1] at h2
   cases h2
  have hQ : Q .normal a w := hK tm σ β a w hs h
  cases fuel with
  | zero =>
   refine ⟨?_, hQ⟩
   cases hr : Region.ready .any ops L with
   | nil => rfl
   | cons x xs => exact absurd (by rw [hr]; simp) (hno x)
  | succ f => exact ⟨fun _ => hQ, fun j hj => absurd hj (hno j)⟩
 | cons o rest ih =>
  intro k fuel L tm σ β a w hd hpk hL hdone hun hf hs h
  obtain ⟨h1, h2, h3⟩ := drop_cons hd
  obtain ⟨f, rfl⟩ : ∃ f, fuel = f + 1 := ⟨fuel - 1, by omega⟩
  have hkr : k ∈ Region.ready .any ops L := mem_ready.2 ⟨by have := hun k (Nat.le_refl _) h3; simpa [Array.getD, hL, h3] using this, o, h1, fun e he hb => by
   have := hfe k o h1 e he hb
   exact hdone e.on this (by omega)⟩
  refine ⟨fun hr => absurd hkr (by rw [hr]; simp), fun j hj => ?_⟩
  obtain ⟨hj1, hj2⟩ := notReady L j hL hj
  have hjk : j = k := by
   rcases Nat.lt_trichotomy j k with hlt | heq | hgt
   ·rw [hdone j hlt hj1] at hj2; cases hj2
   ·exact heq
   ·obtain ⟨_, o', ho', hedges⟩ := mem_ready.1 hj
    have := reached (L := L) (fun i q hq hl e he hb => by
     have hiq : i < ops.size := (Array.getElem?_eq_some_iff.1 hq).1
     have hik : i < k := by
      apply Nat.lt_of_not_le
      intro hki
      rw [hun i hki hiq] at hl
      cases hl
     have := hfe i q hq e he hb
     exact hdone e.on (by omega) (by omega)) 6 o' k hedges (hft j o' (by omega) ho' k hgt)
    rw [hun k (Nat.le_refl _) h3] at this
    cases this
  subst hjk
  have hset : ∀ i, (L.setIfInBounds j true).getD i false = if i = j then true else L.getD i false := by
   intro i
   by_cases hij : i = j
   ·subst hij; simp [Array.getD, hL, h3]
   ·simp only [hij, if_false]; exact getD_set_ne false (Ne.symm hij)
  have goOn : ∀ (tm' : Env) (σ' : LH) (β' : Nat → Pl) (a' : Act) (w' : World), St σ0 W β0 n nb βb β' tm' σ' a' w' → evOps P Φ σ0.length n ops rest tm' σ' K = some r → wpAny P .any ops Q f (L.setIfInBounds j true) a' w' := by
   intro tm' σ' β' a' w' hs' h'
   refine ih (j + 1) f _ tm' σ' β' a' w' h2 (by omega) (by simpa using hL) (fun i hi hi' => ?_) (fun i hi hi' => ?_) (by omega) hs' h'
   ·rw [hset]
    split
    ·rfl
    ·exact hdone i (by omega) hi'
   ·rw [hset, if_neg (by omega)]
    exact hun i (by omega) hi'
  rw [evOps] at h
  obtain ⟨tm1, hal, hgd, hyes, hno⟩ := guardK_eq h
  unfold wpOp
  simp only [h1, hs.wanted o ops hgd]
  have hs1 : St σ0 W β0 n nb βb β tm1 σ a w := ⟨hal.fr hs.fr, hal.inn hs.env, hs.hp, hs.nle, hs.bext⟩
  by_cases hw : wantB o ops tm = true
  ·simp only [hw, if_true]
   refine Or.inl (step_run (n := n) hΦ (fun x hx hok => hs1.fr.eval hok) (fun x hx hok => ev_inn hs1.env hok) hs1.hp (hyes hw) ?_)
   intro v σ' kept β' w' hb hle _ hv hp' hk
   split at hk
   case h_2 => simp at hk
   rename_i tm' htm
   have hfr := (hs1.fr.ext hs1.env hb).put htm
   exact goOn tm' σ' β' _ w' ⟨hfr, put_inn (fun p hp => inn_mono hle (hs1.env p hp)) hv htm, hp', Nat.le_trans hs1.nle hle, fun i hi => by rw [hb i (Nat.lt_of_lt_of_le hi hs1.nle)]; exact hs1.bext i hi⟩ hk
  ·have hw' : wantB o ops tm = false := by simpa using hw
   simp only [hw', Bool.false_eq_true, if_false]
   have h' := hno hw'
   split at h'
   case h_2 => simp at h'
   rename_i tm' htm
   have hfr := hs1.fr.put htm
   rw [rl_undef] at hfr
   exact goOn tm' σ β _ w ⟨hfr, put_inn hs1.env rfl htm, hs1.hp, hs1.nle, hs1.bext⟩ h'
set_option maxHeartbeats 4000000 in
theorem evDraw_run {R : Type} {P : Program} (hm : P.follows .mixedOrders = true) {Φ : Tab} {W : World} (hΦ : Φ.Ok P W) {σ0 σ : LH} {w : World} {β0 β βb : Nat → Pl} {n nb id : Nat} {ops : Array Oper} {tm : Env} {a : Act} {K : Env → LH → Option R} {r : R} {Q : Exit → Act → World → Prop}
  (hd : drawOk ops = true) (hs : St σ0 W β0 n nb βb β tm σ a w) (h : evDraw P Φ σ0.length n ops (spOf ops) (ops.toList.take (preN ops)) 0 tm σ none (fun tm σ => evOps P Φ σ0.length n ops (ops.toList.drop (preN ops)) tm σ K) = some r)
  (hK : ∀ tm' σ' β' a' w', St σ0 W β0 n nb βb β' tm' σ' a' w' → K tm' σ' = some r → Q .normal a' w') : (Code.region id ops true).wp P Q a w := by
 obtain ⟨hpn, fe, fr, fo, ft⟩ := drawOk_facts hd
 obtain ⟨tms, vs, E, h0, htr, hKE, hA1, hA0⟩ := evDraw_trace hΦ (ops.toList.take (preN ops)) 0 tm none h
 have hspf : ∀ (i : Nat) (o : Oper), i < preN ops → ops[i]? = some o → isSp o.op = true → ∃ s, spOf ops = some s := by
  intro i o hiN hi ht
  cases hs : spOf ops with
  | some s => exact ⟨s, rfl⟩
  | none =>
   exfalso
   unfold spOf at hs
   rw [List.find?_eq_none] at hs
   have hmem : o ∈ ops.toList.take (preN ops) := by
    have : (ops.toList.take (preN ops))[i]? = some o := by rw [List.getElem?_take_of_lt hiN, Array.getElem?_toList]; exact hi
    exact List.mem_of_getElem? this
   exact hs o hmem ht
 have hspm : ∀ s, spOf ops = some s → ∃ q, q < preN ops ∧ ops[q]? = some s ∧ isSp s.op = true := by
  intro s hs
  unfold spOf at hs
  have h1 := List.mem_of_find?_eq_some hs
  have h2 := List.find?_some hs
  obtain ⟨q, hq⟩ := List.getElem?_of_mem h1
  have hqN : q < preN ops := by
   have := (List.getElem?_eq_some_iff.1 hq).1
   simp at this
   omega
  rw [List.getElem?_take_of_lt hqN, Array.getElem?_toList] at hq
  exact ⟨q, hqN, hq, h2⟩
 generalize spOf ops = sp at *
 generalize hpdef : preN ops = N at *
 have hlen : (ops.toList.take N).length = N := by simp; omega
 rw [hlen] at hKE
 have hA1' : ∀ (i : Nat) (o : Oper), i < N → ops[i]? = some o → isSp o.op = true → ∀ (j : Nat) (o' : Oper), j < N → ops[j]? = some o' → isSp o'.op = true → j = i := by
  intro i o hiN hi ht j o' hjN hj hc
  exact (hA1 i o (by rw [List.getElem?_take_of_lt hiN, Array.getElem?_toList]; exact hi) ht).2 j o' (by rw [List.getElem?_take_of_lt hjN, Array.getElem?_toList]; exact hj) hc
 have hA0' : (∀ (i : Nat) (o : Oper), i < N → ops[i]? = some o → isSp o.op = false) → E = none := fun hn => hA0 fun i o hi => by
  have hiN : i < N := by have := (List.getElem?_eq_some_iff.1 hi).1; omega
  rw [List.getElem?_take_of_lt hiN, Array.getElem?_toList] at hi
  exact hn i o hiN hi
 have htr' : ∀ (i : Nat) (o : Oper), i < N → ops[i]? = some o → Did P Φ σ0.length n ops sp σ E i o (tms i) (tms (i + 1)) (vs i) := fun i o hiN hi => by
  have := htr i o (by rw [List.getElem?_take_of_lt hiN, Array.getElem?_toList]; exact hi)
  rwa [Nat.zero_add] at this
 -- what no operation from i on to k writes stays
 have stay : ∀ (t i d : Nat), i + d ≤ N → (∀ (k : Nat) (o : Oper), i ≤ k → k < i + d → ops[k]? = some o → o.dst ≠ some t) → look (tms (i + d)) t = look (tms i) t := by
  intro t i d
  induction d with
  | zero => intro _ _; rfl
  | succ d ih =>
   intro hle hno
   have hltN : i + d < N := by omega
   have hlt : i + d < ops.size := by omega
   have ho : ops[i + d]? = some ops[i + d] := Array.getElem?_eq_getElem hlt
   rw [← Nat.add_assoc, ((htr' _ _ hltN ho).look t).2 (hno _ _ (by omega) (by omega) ho)]
   exact ih (by omega) fun k o h1 h2 h3 => hno k o h1 (by omega) h3
 have stayE : ∀ (t i : Nat), i ≤ N → (∀ (k : Nat) (o : Oper), i ≤ k → k < N → ops[k]? = some o → o.dst ≠ some t) → look (tms N) t = look (tms i) t := by
  intro t i hi hno
  have := stay t i (N - i) (by omega) fun k o h1 h2 h3 => hno k o h1 (by omega) h3
  rwa [show i + (N - i) = N by omega] at this
 have valE : ∀ (i : Nat) (o : Oper) (t : Nat), i < N → ops[i]? = some o → o.dst = some t → look (tms N) t = vs i := by
  intro i o t hiN hi ht
  rw [stayE t (i + 1) (by omega) fun k p h1 hk h2 h3 => by have := fo k i p o hk hiN h2 hi t h3 ht; omega]
  exact ((htr' i o hiN hi).look t).1 ht
 have readE : ∀ (j : Nat) (o : Oper) (t : Nat), j < N → ops[j]? = some o → t ∈ reads ops o → look (tms j) t = look (tms N) t := by
  intro j o t hjN hj ht
  exact (stayE t j (by omega) fun k p h1 hk h2 h3 => by have := (fr k j p o hk hjN h2 hj t h3 ht).1; omega).symm
 have freeE : ∀ (t : Nat), (∀ (k : Nat) (o : Oper), k < N → ops[k]? = some o → o.dst ≠ some t) → look (tms N) t = look tm t := by
  intro t hno
  rw [stayE t 0 (by omega) fun k o _ hk h2 => hno k o hk h2, h0]
 have hasE : ∀ (k : Nat), k ≤ N → ∀ t, has (tms k) t = true → (∃ (i : Nat) (o : Oper), i < N ∧ ops[i]? = some o ∧ o.dst = some t) ∨ has tm t = true := by
  intro k
  induction k with
  | zero => intro _ t ht; rw [h0] at ht; exact Or.inr ht
  | succ k ih =>
   intro hk t ht
   have ho : ops[k]? = some ops[k] := Array.getElem?_eq_getElem (by omega)
   rcases (htr' k _ (by omega) ho).has ht with h1 | h1
   ·exact Or.inl ⟨k, _, by omega, ho, h1⟩
   ·exact ih (by omega) t h1
 -- what the frame shows once the operations of L have come up
 let Inv : Array Bool → Act → World → Prop := fun L a w => a.tmps.size = n ∧ a.defers = [] ∧ ∃ (hp : LH) (β' : Nat → Pl), Hp σ0 W β0 β' hp w ∧ (∀ i, i < σ.length → β' i = β i) ∧ σ.length ≤ hp.length ∧
  ((hp = σ ∧ ∀ (i : Nat) (o : Oper), i < N → ops[i]? = some o → L.getD i false = true → isSp o.op = false) ∨ (E = some hp ∧ ∃ (i : Nat) (o : Oper), i < N ∧ ops[i]? = some o ∧ L.getD i false = true ∧ isSp o.op = true ∧ ∀ e ∈ o.after, Region.binds .any e = true → L.getD e.on false = true)) ∧
  (∀ i, N ≤ i → i < ops.size → L.getD i false = false) ∧
  (∀ (i : Nat) (o : Oper), i < N → ops[i]? = some o → L.getD i false = true → inn hp.length (vs i) = true) ∧
  (∀ (t i : Nat) (o : Oper), i < N → ops[i]? = some o → o.dst = some t → L.getD i false = true → a.tmps.getD t undef = rl β' (vs i)) ∧
  (∀ t, has tm t = true → (∀ (i : Nat) (o : Oper), i < N → ops[i]? = some o → o.dst = some t → L.getD i false = false) → a.tmps.getD t undef = rl β (look tm t)) ∧
  (∀ (i : Nat) (o : Oper), ops[i]? = some o → L.getD i false = true → ∀ e ∈ o.after, Region.binds .any e = true → L.getD e.on false = true)
 have main : ∀ (fuel : Nat) (L : Array Bool) (a : Act) (w : World), L.size = ops.size → L.toList.count false ≤ fuel → Inv L a w → wpAny P .any ops Q fuel L a w := by
  have done : ∀ (fuel : Nat) (L : Array Bool) (a : Act) (w : World), L.size = ops.size → L.toList.count false ≤ fuel → (∀ i, i < N → L.getD i false = true) → Inv L a w → wpAny P .any ops Q fuel L a w := by
   intro fuel L a w hL hc hall ⟨i1, i2, hp, β', i3, ib, il, iA, i0, i4, i5, i6, _⟩
   have hhp : hp = E.getD σ := by
    rcases iA with ⟨h1, h2⟩ | ⟨h1, _⟩
    ·rw [h1, hA0' fun i o hiN hi => h2 i o hiN hi (hall i hiN)]; rfl
    ·rw [h1]; rfl
   rw [← hhp] at hKE
   have hfuel : ops.size - N ≤ fuel := by
    have h1 : L.toList.drop N = List.replicate (ops.size - N) false := by
     apply List.ext_getElem
     ·simp [hL]
     ·intro i h2 h3
      simp only [List.length_replicate] at h3
      have := i0 (N + i) (by omega) (by omega)
      have hlt : N + i < L.size := by omega
      simp only [List.getElem_drop, List.getElem_replicate, Array.getElem_toList]
      simpa [Array.getD, hlt] using this
    have h2 : (L.toList.drop N).count false ≤ L.toList.count false := (List.drop_sublist N L.toList).count_le false
    rw [h1, List.count_replicate_self] at h2
    omega
   refine evTail_run hΦ (p := N) fe ft hK _ N fuel L (tms N) hp β' a w rfl (Nat.le_refl _) hL (fun i hi _ => hall i hi) (fun i hi hi' => i0 i hi hi') hfuel ⟨⟨i1, fun t hht => ?_, i2⟩, ?_, i3, by have := hs.nle; omega, fun i hi => by have := hs.nle; rw [ib i (by omega)]; exact hs.bext i hi⟩ hKE
   ·by_cases hw : ∃ (i : Nat) (o : Oper), i < N ∧ ops[i]? = some o ∧ o.dst = some t
    ·obtain ⟨i, o, hiN, hi, ht⟩ := hw
     rw [i5 t i o hiN hi ht (hall i hiN), valE i o t hiN hi ht]
    ·have hno : ∀ (i : Nat) (o : Oper), i < N → ops[i]? = some o → o.dst ≠ some t := fun i o hiN hi ht => hw ⟨i, o, hiN, hi, ht⟩
     have htm : has tm t = true := (hasE N (Nat.le_refl _) t hht).resolve_left fun ⟨i, o, hiN, hi, ht⟩ => hno i o hiN hi ht
     rw [i6 t htm fun i o hiN hi ht => absurd ht (hno i o hiN hi), freeE t hno]
     exact (rl_congr (look_inn hs.env t) ib).symm
   ·have : ∀ k, k ≤ N → ∀ p ∈ tms k, inn hp.length p.2 = true := by
     intro k
     induction k with
     | zero => intro _ p hp'; rw [h0] at hp'; exact inn_mono il (hs.env p hp')
     | succ k ih =>
      intro hk
      have ho : ops[k]? = some ops[k] := Array.getElem?_eq_getElem (by omega)
      obtain ⟨tm1, hal, hput⟩ := (htr' k _ (by omega) ho).put
      exact put_inn (hal.inn (ih (by omega))) (i4 k _ (by omega) ho (hall k (by omega))) hput
    exact this N (Nat.le_refl _)
  have allOf : ∀ (L : Array Bool), L.size = ops.size → Region.ready .any ops L = [] → ∀ i, i < ops.size → L.getD i false = true := by
   intro L hL hr i
   induction i using Nat.strongRecOn with
   | _ i ih =>
    intro hi
    rcases hb : L.getD i false with _ | _
    ·exfalso
     have ho : ops[i]? = some ops[i] := Array.getElem?_eq_getElem hi
     have : i ∈ Region.ready .any ops L := mem_ready.2 ⟨by simpa [Array.getD, hL, hi] using hb, ops[i], ho, fun e he hbd => ih e.on (fe i _ ho e he hbd) (by have := fe i _ ho e he hbd; omega)⟩
     rw [hr] at this
     cases this
    ·rfl
  intro fuel
  induction fuel with
  | zero =>
   intro L a w hL hc hi
   have hall : ∀ i, i < ops.size → L.getD i false = true := by
    intro i hlt
    have h1 : ¬ false ∈ L.toList := by
     intro hm
     have := List.count_pos_iff.2 hm
     omega
    rcases hb : L.getD i false with _ | _
    ·exfalso
     apply h1
     have : L[i]'(by omega) = false := by simpa [Array.getD, hL, hlt] using hb
     rw [← this]
     simp
    ·rfl
   exact done 0 L a w hL hc (fun i hi' => hall i (by omega)) hi
  | succ fuel ih =>
   intro L a w hL hc hi
   by_cases hall : ∀ i, i < N → L.getD i false = true
   ·exact done (fuel + 1) L a w hL hc hall hi
   refine ⟨fun hr => absurd (fun i hiN => allOf L hL hr i (by omega)) hall, fun j hj => ?_⟩
   obtain ⟨hun, o, ho, hedges⟩ := mem_ready.1 hj
   have hjN : j < N := by
    apply Nat.lt_of_not_le
    intro hle
    refine hall fun i hiN => ?_
    obtain ⟨_, _, _, _, _, _, _, _, _, _, _, _, iC⟩ := hi
    exact reached iC 6 o i hedges (ft j o hle ho i (by omega))
   have hlt : j < ops.size := (Array.getElem?_eq_some_iff.1 ho).1
   have hLj : L[j]'(by omega) = false := by simpa [Array.getD, hL, hlt] using hun
   obtain ⟨i1, i2, hp, β', i3, ib, hlen', iA, i0, i4, i5, i6, iC⟩ := hi
   -- what the operation reads is there
   have hread : ∀ t ∈ reads ops o, has (tms j) t = true → a.tmps.getD t undef = rl β' (look (tms j) t) ∧ inn hp.length (look (tms j) t) = true := by
    intro t ht hht
    rw [readE j o t hjN ho ht]
    by_cases hw : ∃ (i : Nat) (p : Oper), i < N ∧ ops[i]? = some p ∧ p.dst = some t
    ·obtain ⟨i, p, hiN, hip, hpt⟩ := hw
     obtain ⟨hij, e, he, heq, hb⟩ := fr i j p o hiN hjN hip ho t hpt ht
     have hli : L.getD i false = true := by rw [← heq]; exact hedges e he hb
     rw [valE i p t hiN hip hpt]
     exact ⟨i5 t i p hiN hip hpt hli, i4 i p hiN hip hli⟩
    ·have hno : ∀ (i : Nat) (p : Oper), i < N → ops[i]? = some p → p.dst ≠ some t := fun i p hiN hip hpt => hw ⟨i, p, hiN, hip, hpt⟩
     rw [freeE t hno]
     have htm : has tm t = true := (hasE j (by omega) t hht).resolve_left fun ⟨i, o, hiN, hi, ht⟩ => hno i o hiN hi ht
     exact ⟨(i6 t htm fun i p hiN hip hpt => absurd hpt (hno i p hiN hip)).trans (rl_congr (look_inn hs.env t) ib).symm, inn_mono hlen' (look_inn hs.env t)⟩
   have hD := htr' j o hjN ho
   have hwant : Region.wanted o (yielded ops a.tmps) = wantB o ops (tms j) := wanted_of i1 fun g want d hg hgd => (hread d (by
    unfold reads
    rw [List.mem_append]
    right
    rw [hg]
    simp only []
    rw [hgd]
    simp) (hD.gd g want d hg hgd)).1
   have hop : ∀ t, Operand.tmp t ∈ o.op.operands → t ∈ reads ops o := by
    intro t ht
    unfold reads
    rw [List.mem_append]
    left
    rw [List.mem_filterMap]
    exact ⟨.tmp t, by simpa using ht, rfl⟩
   -- the invariant behind it
   have next : ∀ (w' : World) (hp' : LH) (β'' : Nat → Pl), (hp' = hp ∧ isSp o.op = false ∨ E = some hp' ∧ isSp o.op = true) → (∀ i, i < hp.length → β'' i = β' i) → hp.length ≤ hp'.length →
     Hp σ0 W β0 β'' hp' w' → inn hp'.length (vs j) = true → wpAny P .any ops Q fuel (L.setIfInBounds j true) (a.put o.dst (rl β'' (vs j))) w' := by
    intro w' hp' β'' hbb hb'' hll hp1 hv
    have hset : ∀ i, (L.setIfInBounds j true).getD i false = if i = j then true else L.getD i false := by
     intro i
     by_cases hij : i = j
     ·subst hij; simp [Array.getD, hL, hlt]
     ·simp only [hij, if_false]; exact getD_set_ne false (Ne.symm hij)
    refine ih _ _ w' (by simpa using hL) ?_ ⟨?_, ?_, hp', β'', hp1, fun i hi => by rw [hb'' i (Nat.lt_of_lt_of_le hi hlen')]; exact ib i hi, Nat.le_trans hlen' hll, ?_, fun i hi hi' => by rw [hset, if_neg (by omega)]; exact i0 i hi hi', ?_, ?_, ?_, fun i p hip hl e he hb => ?_⟩
    ·have hjl : j < L.toList.length := by simp; omega
     have hcs := List.count_set (l := L.toList) (i := j) (a := true) (b := false) hjl
     have hpos : 0 < L.toList.count false := List.count_pos_iff.2 (by rw [← hLj]; simp)
     have hgj : L.toList[j] = false := by simpa using hLj
     have htf : (true == false) = false := rfl
     rw [Array.toList_setIfInBounds, hcs, hgj]
     simp only [beq_self_eq_true, if_true, htf, Bool.false_eq_true, if_false]
     omega
    ·cases hdo : o.dst <;> simp [Act.put, i1]
    ·cases hdo : o.dst <;> simp [Act.put, i2]
    ·rcases hbb with ⟨rfl, hno⟩ | ⟨hE, ht⟩
     ·rcases iA with ⟨e1, e2⟩ | ⟨e1, i, p, e3, e4, e5, e6, e7⟩
      ·refine Or.inl ⟨e1, fun i p hiN hip hl => ?_⟩
       rw [hset] at hl
       by_cases hij : i = j
       ·subst hij
        rw [ho] at hip
        simp only [Option.some.injEq] at hip
        subst hip
        exact hno
       ·simp only [hij, if_false] at hl; exact e2 i p hiN hip hl
      ·exact Or.inr ⟨e1, i, p, e3, e4, by rw [hset]; split; rfl; exact e5, e6, fun e he hb => by rw [hset]; split; rfl; exact e7 e he hb⟩
     ·exact Or.inr ⟨hE, j, o, hjN, ho, by rw [hset, if_pos rfl], ht, fun e he hb => by rw [hset]; split; rfl; exact hedges e he hb⟩
    ·intro i p hiN hip hl
     rw [hset] at hl
     by_cases hij : i = j
     ·subst hij; exact hv
     ·simp only [hij, if_false] at hl; exact inn_mono hll (i4 i p hiN hip hl)
    ·intro t i p hiN hip hpt hl
     rw [hset] at hl
     by_cases hij : i = j
     ·subst hij
      rw [ho] at hip
      simp only [Option.some.injEq] at hip
      subst hip
      have hbound : t < n := by
       obtain ⟨tm1, hal, this⟩ := hD.put
       rw [hpt] at this
       simp only [put] at this
       split at this
       ·rename_i hble; exact Nat.le_of_ble_eq_true hble
       ·simp at this
      simp [Act.put, hpt, Array.getD, i1, hbound]
     ·simp only [hij, if_false] at hl
      have hne : o.dst ≠ some t := fun hot => hij (fo i j p o hiN hjN hip ho t hpt hot)
      rw [rl_congr (i4 i p hiN hip hl) hb'', ← i5 t i p hiN hip hpt hl]
      cases hdo : o.dst with
      | none => rfl
      | some d =>
       have hdt : d ≠ t := fun e => hne (by rw [hdo, e])
       simp only [Act.put, Array.getD_eq_getD_getElem?, Array.getElem?_setIfInBounds_ne hdt]
    ·intro t htm hno
     have hne : o.dst ≠ some t := fun hot => by
      have := hno j o hjN ho hot
      rw [hset] at this
      simp at this
     have : a.tmps.getD t undef = rl β (look tm t) := i6 t htm fun i p hiN hip hpt => by
      have := hno i p hiN hip hpt
      rw [hset] at this
      split at this
      ·cases this
      ·exact this
     rw [← this]
     cases hdo : o.dst with
     | none => rfl
     | some d =>
      have hdt : d ≠ t := fun e => hne (by rw [hdo, e])
      simp only [Act.put, Array.getD_eq_getD_getElem?, Array.getElem?_setIfInBounds_ne hdt]
    ·rw [hset] at hl ⊢
     by_cases hej : e.on = j
     ·rw [if_pos hej]
     ·rw [if_neg hej]
      by_cases hij : i = j
      ·subst hij
       rw [ho] at hip
       simp only [Option.some.injEq] at hip
       subst hip
       exact hedges e he hb
      ·rw [if_neg hij] at hl
       exact iC i p hip hl e he hb
   unfold wpOp
   simp only [ho, hwant]
   have hx : ∀ tm1, Alike tm1 (tms j) → ∀ x ∈ o.op.operands, evOk tm1 x = true → a.eval x = rl β' (ev tm1 x) := by
    intro tm1 hal x hx hok
    rw [hal.ev]
    rw [hal.ok] at hok
    cases x with
    | tmp t => exact (hread t (hop t hx) hok).1
    | const v => simp only [Act.eval, ev]; exact (rl_plain hok).symm
    | global g => simp [evOk] at hok
    | func f => simp [Act.eval, ev, rl]
   have hi' : ∀ tm1, Alike tm1 (tms j) → ∀ x ∈ o.op.operands, evOk tm1 x = true → inn hp.length (ev tm1 x) = true := by
    intro tm1 hal x hx hok
    rw [hal.ev]
    rw [hal.ok] at hok
    cases x with
    | tmp t => exact (hread t (hop t hx) hok).2
    | const v => exact plain_inn hok
    | global g => simp [evOk] at hok
    | func f => rfl
   cases hsp : isSp o.op with
   | true =>
    obtain ⟨hg, σ1, b, hE, hle1, hst⟩ := hD.spc hsp
    have hwb : wantB o ops (tms j) = true := by unfold wantB; rw [hg]
    have hhp : hp = σ := by
     rcases iA with ⟨e1, _⟩ | ⟨_, i, p, e3, e4, e5, e6, _⟩
     ·exact e1
     ·have := hA1' j o hjN ho hsp i p e3 e4 e6
      subst this
      have e7 : L[i]'(by omega) = true := by simpa [Array.getD, hL, hlt] using e5
      rw [hLj] at e7
      cases e7
    subst hhp
    simp only [hwb, if_true]
    refine Or.inl (step_run (n := n) (β := β') hΦ (K := fun v σ' b => some (v, σ', b)) (r := (vs j, σ1, b)) (tm := tms j) (hx _ (Alike.refl _)) (hi' _ (Alike.refl _)) i3 (hst _ _) ?_)
    intro v σ2 kept β'' w' hb' hle hpre hv' hp' hk
    simp only [Option.some.injEq, Prod.mk.injEq] at hk
    obtain ⟨rfl, rfl, rfl⟩ := hk
    exact next w' _ β'' (Or.inr ⟨hE, hsp⟩) hb' hle hp' hv'
   | false =>
    rcases hwb : wantB o ops (tms j) with _ | _
    ·simp only [Bool.false_eq_true, if_false]
     have hu := hD.no hsp hwb
     have := next w hp β' (Or.inl ⟨rfl, hsp⟩) (fun _ _ => rfl) (Nat.le_refl _) i3 (by rw [hu]; rfl)
     rw [hu, rl_undef] at this
     exact this
    ·simp only [if_true]
     obtain ⟨tm1, σ', halk, hl', hstep, hrest⟩ := hD.yes hsp hwb
     have hst : ∃ σ2 : LH, σ2.length = hp.length ∧ step P Φ σ0.length o tm1 hp (fun v σ' b => some (v, σ', b)) = some (vs j, σ2, true) := by
      rcases iA with ⟨e1, _⟩ | ⟨e1, i, p, e3, e4, e5, e6, e7⟩
      ·subst e1
       exact ⟨σ', hl', hstep _ _⟩
      ·obtain ⟨s, hs'⟩ := hspf i p e3 e4 e6
       obtain ⟨q, q1, q2, q3⟩ := hspm s hs'
       have hqi := hA1' i p e3 e4 e6 q s q1 q2 q3
       subst hqi
       rw [e4] at q2
       simp only [Option.some.injEq] at q2
       subst q2
       rcases hrest p hs' with hw | ⟨hal, hm'⟩ | hf
       ·exfalso
        have h3 : L.getD j false = true := by
         rcases hw with hw | hw
         ·unfold waitsOn at hw
          simp only [List.any_eq_true, Bool.and_eq_true] at hw
          obtain ⟨e, he, h1, h2⟩ := hw
          have h3 := e7 e (by simpa using he) h2
          rwa [Nat.eq_of_beq_eq_true h1] at h3
         ·exact reached iC 4 p j e7 hw
        have h4 : L[j]'(by omega) = true := by simpa [Array.getD, hL, hlt] using h3
        rw [hLj] at h4
        cases h4
       ·have hDq := htr' q p e3 e4
        obtain ⟨_, σ1, b, hE, _, hst1⟩ := hDq.spc e6
        have : hp = σ1 := by rw [e1] at hE; simpa using hE
        subst this
        cases hop : p.op <;> rw [hop] at hal <;> simp only [isAlo, Bool.false_eq_true] at hal
        obtain ⟨v2, b2, hst2⟩ := step_alloc (r := (vs q, hp, b)) hop (hst1 (Value × LH × Bool) fun v σ' b => some (v, σ', b))
        have e8 := hst2 (Value × LH × Bool) fun v σ' b => some (v, σ', b)
        rw [hst1] at e8
        simp only [Option.some.injEq, Prod.mk.injEq] at e8
        rw [e8.2.1]
        exact ⟨σ ++ [b2], rfl, hm' [b2] _ _⟩
       ·exact ⟨hp, rfl, hf hp _ _⟩
     obtain ⟨σ2, hl2, hst⟩ := hst
     refine Or.inl (step_run (n := n) (β := β') hΦ (K := fun v σ' b => some (v, σ', b)) (r := (vs j, σ2, true)) (tm := tm1) (hx _ halk) (hi' _ halk) i3 hst ?_)
     intro v σ3 kept β'' w' hb hle hpre hv hp' hk
     simp only [Option.some.injEq, Prod.mk.injEq] at hk
     obtain ⟨rfl, rfl, rfl⟩ := hk
     have hσ : σ3 = hp := by
      apply List.ext_getElem?
      intro i
      by_cases hi : i < hp.length
      ·exact hpre rfl i hi
      ·rw [List.getElem?_eq_none (by omega), List.getElem?_eq_none (by omega)]
     subst hσ
     exact next w' _ β'' (Or.inl ⟨rfl, hsp⟩) hb (Nat.le_refl _) hp' hv
 refine wp_region_any hm (main ops.size _ a _ (by simp) (by simp) ⟨hs.fr.size, hs.fr.defers, σ, β, hs.hp.drew, fun _ _ => rfl, Nat.le_refl _, Or.inl ⟨rfl, fun i o hiN hi hl => ?_⟩, fun i _ hi => (by simp [Array.getD, hi]), ?_, ?_, ?_, fun i o hi hl => ?_⟩)
 ·have hlt : i < ops.size := (Array.getElem?_eq_some_iff.1 hi).1
  simp [Array.getD, hlt] at hl
 ·intro i o hiN hi hl
  have hlt : i < ops.size := (Array.getElem?_eq_some_iff.1 hi).1
  simp [Array.getD, hlt] at hl
 ·intro t i o hiN hi ht hl
  have hlt : i < ops.size := (Array.getElem?_eq_some_iff.1 hi).1
  simp [Array.getD, hlt] at hl
 ·intro t htm _
  exact hs.fr.val t htm
 ·have hlt : i < ops.size := (Array.getElem?_eq_some_iff.1 hi).1
  simp [Array.getD, hlt] at hl
end Go.RX
