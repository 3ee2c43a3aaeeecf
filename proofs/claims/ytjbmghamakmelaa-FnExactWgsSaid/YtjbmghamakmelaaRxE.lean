/- Code, loops, whole functions. -/
import Derived.Test.YtjbmghamakmelaaRxD
set_option linter.unusedSimpArgs false
set_option linter.unusedVariables false
namespace Go.RX
open Go.RowKit

inductive LX where
  | normal
  | exit (id : Nat)
  | ret

def LX.up : LX → Exit
  | .normal => .normal
  | .exit id => .exit id
  | .ret => .ret

/-- The temporaries, each once. -/
def norm (n : Nat) (tm : Env) : Env := (List.range n).map fun t => (t, look tm t)

def loopN {R : Type} (n : Nat) : Nat → (Env → LH → (LX → Env → LH → Option R) → Option R) → Env → LH → (LX → Env → LH → Option R) → Option R
  | 0, _, _, _, _ => none
  | k + 1, f, tm, σ, K => f (norm n tm) σ fun e tm' σ' => match e with
    | .normal => loopN n k f tm' σ' K
    | .exit id => K (.exit id) tm' σ'
    | .ret => K .ret tm' σ'

def exec {R : Type} (P : Program) (Φ : Tab) (m n N : Nat) : Code → Env → LH → (LX → Env → LH → Option R) → Option R
  | .skip, tm, σ, K => K .normal tm σ
  | .label _, tm, σ, K => K .normal tm σ
  | .region _ ops draw, tm, σ, K => match draw with
    | false => evOps P Φ m n ops ops.toList tm σ fun tm' σ' => K .normal tm' σ'
    | true => (match drawOk ops with
      | true => evDraw P Φ m n ops ops.toList tm σ fun tm' σ' => K .normal tm' σ'
      | false => none)
  | .seq a b, tm, σ, K => exec P Φ m n N a tm σ fun e tm' σ' => match e with
    | .normal => exec P Φ m n N b tm' σ' K
    | .exit id => K (.exit id) tm' σ'
    | .ret => K .ret tm' σ'
  | .cond c x y, tm, σ, K => match evOk c with
    | true => (match ev tm c with
      | .bool t => (match t with
        | true => exec P Φ m n N x tm σ K
        | false => exec P Φ m n N y tm σ K)
      | _ => none)
    | false => none
  | .block id c, tm, σ, K => exec P Φ m n N c tm σ fun e tm' σ' => match e with
    | .normal => K .normal tm' σ'
    | .exit id' => (match Nat.beq id' id with
      | true => K .normal tm' σ'
      | false => K (.exit id') tm' σ')
    | .ret => K .ret tm' σ'
  | .loop c, tm, σ, K => loopN n N (exec P Φ m n N c) tm σ K
  | .exit id, tm, σ, K => K (.exit id) tm σ
  | .ret, tm, σ, K => K .ret tm σ
  | _, _, _, _ => none

theorem look_range (n : Nat) (tm : Env) : ∀ (k : Nat) (t : Nat), look ((List.range' k n).map fun t => (t, look tm t)) t = if k ≤ t ∧ t < k + n then look tm t else undef := by
  induction n with
  | zero => intro k t; simp only [List.range'_zero, List.map_nil, look, Nat.add_zero]; rw [if_neg (by omega)]
  | succ n ih =>
    intro k t
    simp only [List.range'_succ, List.map_cons, look]
    by_cases hkt : k = t
    · subst hkt
      rw [Nat.beq_refl]
      simp only []
      rw [if_pos (by omega)]
    · have : Nat.beq k t = false := by
        cases hb : Nat.beq k t
        · rfl
        · exact absurd (Nat.eq_of_beq_eq_true hb) hkt
      rw [this]
      simp only []
      rw [ih (k + 1) t]
      by_cases h1 : k ≤ t ∧ t < k + (n + 1)
      · rw [if_pos h1, if_pos (by omega)]
      · rw [if_neg h1, if_neg (by omega)]

theorem look_norm (n : Nat) (tm : Env) (t : Nat) : look (norm n tm) t = if t < n then look tm t else undef := by
  unfold norm
  rw [List.range_eq_range', look_range]
  by_cases h : t < n
  · rw [if_pos h, if_pos (by omega)]
  · rw [if_neg h, if_neg (by omega)]

theorem St.norm {σ0 σ : LH} {W w : World} {β0 β : Nat → Nat} {n : Nat} {tm : Env} {a : Act} (h : St σ0 W β0 n β tm σ a w) : St σ0 W β0 n β (norm n tm) σ a w := by
  refine ⟨⟨h.fr.size, fun t => ?_, h.fr.defers⟩, fun p hp => ?_, h.hp⟩
  · rw [look_norm]
    by_cases ht : t < n
    · rw [if_pos ht]; exact h.fr.val t
    · rw [if_neg ht]
      simp [Array.getD, h.fr.size, ht, rl_undef]
  · unfold RX.norm at hp
    simp only [List.mem_map] at hp
    obtain ⟨t, _, rfl⟩ := hp
    exact look_inn h.env t

/-- The interpreter's code is the machine's. -/
theorem exec_run {R : Type} {P : Program} (hm : P.follows .mixedOrders = true) {Φ : Tab} (hΦ : Φ.Ok P) {σ0 : LH} {W : World} {β0 : Nat → Nat} {n N : Nat} {r : R} (c : Code) :
    ∀ (tm : Env) (σ : LH) (K : LX → Env → LH → Option R) (β : Nat → Nat) (a : Act) (w : World) (Q : Exit → Act → World → Prop),
      exec P Φ σ0.length n N c tm σ K = some r → St σ0 W β0 n β tm σ a w →
      (∀ lx tm' σ' β' a' w', St σ0 W β0 n β' tm' σ' a' w' → K lx tm' σ' = some r → Q lx.up a' w') → c.wp P Q a w := by
  induction c with
  | skip => intro tm σ K β a w Q h hs hK; exact wp_skip (hK .normal tm σ β a w hs h)
  | label l => intro tm σ K β a w Q h hs hK; exact wp_label (hK .normal tm σ β a w hs h)
  | region id ops draw =>
    intro tm σ K β a w Q h hs hK
    cases draw with
    | false =>
      simp only [exec] at h
      refine wp_region ?_
      have := evOps_run hΦ (Q := Q) (fun tm' σ' β' a' w' hs' hk => hK .normal tm' σ' β' a' w' hs' hk) ops.toList 0 tm σ β a w rfl hs h
      rw [List.range_eq_range']
      simpa using this
    | true =>
      simp only [exec] at h
      split at h
      case h_2 => simp at h
      rename_i hd
      exact evDraw_run hm hΦ hd hs h fun tm' σ' β' a' w' hs' hk => hK .normal tm' σ' β' a' w' hs' hk
  | seq x y ihx ihy =>
    intro tm σ K β a w Q h hs hK
    simp only [exec] at h
    refine wp_seq (ihx tm σ _ β a w _ h hs ?_)
    intro lx tm' σ' β' a' w' hs' hk
    cases lx with
    | normal => exact ihy tm' σ' K β' a' w' Q hk hs' hK
    | exit id => exact hK (.exit id) tm' σ' β' a' w' hs' hk
    | ret => exact hK .ret tm' σ' β' a' w' hs' hk
  | cond c x y ihx ihy =>
    intro tm σ K β a w Q h hs hK
    simp only [exec] at h
    split at h
    case h_2 => simp at h
    rename_i hok
    split at h
    case h_2 => simp at h
    rename_i t ht
    have hc : a.eval c = .bool t := by rw [hs.fr.eval hok, ht]; rfl
    split at h
    · exact wp_cond_true hc (ihx tm σ K β a w Q h hs hK)
    · exact wp_cond_false hc (ihy tm σ K β a w Q h hs hK)
  | block id c ih =>
    intro tm σ K β a w Q h hs hK
    simp only [exec] at h
    refine wp_block (ih tm σ _ β a w _ h hs ?_)
    intro lx tm' σ' β' a' w' hs' hk
    cases lx with
    | normal => exact hK .normal tm' σ' β' a' w' hs' hk
    | exit id' =>
      simp only [] at hk
      show if id' = id then Q .normal a' w' else Q (.exit id') a' w'
      split at hk
      · rename_i hb
        rw [if_pos (Nat.eq_of_beq_eq_true hb)]
        exact hK .normal tm' σ' β' a' w' hs' hk
      · rename_i hb
        rw [if_neg (fun e => by subst e; rw [Nat.beq_refl] at hb; cases hb)]
        exact hK (.exit id') tm' σ' β' a' w' hs' hk
    | ret => exact hK .ret tm' σ' β' a' w' hs' hk
  | loop c ih =>
    intro tm σ K β a w Q h hs hK
    simp only [exec] at h
    have key : ∀ (k : Nat) (tm : Env) (σ : LH) (β : Nat → Nat) (a : Act) (w : World), loopN n k (exec P Φ σ0.length n N c) tm σ K = some r → St σ0 W β0 n β tm σ a w →
        ∀ (b : Frame) (ks : List Item) (cs : List Frame), ∃ e a' w', Q e a' w' ∧ Arrives P (lone (b.at a (.code c :: .inLoop c :: ks)) cs w) b ks cs e a' w' := by
      intro k
      induction k with
      | zero => intro tm σ β a w h; simp [loopN] at h
      | succ k ihk =>
        intro tm σ β a w h hs b ks cs
        simp only [loopN] at h
        have hc : c.wp P (Exit.then (fun a' w' => ∀ (b : Frame) (ks : List Item) (cs : List Frame), ∃ e a'' w'', Q e a'' w'' ∧ Arrives P (lone (b.at a' (.code c :: .inLoop c :: ks)) cs w') b ks cs e a'' w'') Q) a w := by
          refine ih (RX.norm n tm) σ _ β a w _ h hs.norm ?_
          intro lx tm' σ' β' a' w' hs' hk
          cases lx with
          | normal => exact ihk tm' σ' β' a' w' hk hs'
          | exit id => exact hK (.exit id) tm' σ' β' a' w' hs' hk
          | ret => exact hK .ret tm' σ' β' a' w' hs' hk
        obtain ⟨e, a₁, w₁, hq, harr⟩ := hc b (.inLoop c :: ks) cs
        cases e with
        | normal =>
          obtain ⟨e₂, a₂, w₂, hq₂, harr₂⟩ := hq b ks cs
          exact ⟨e₂, a₂, w₂, hq₂, .of_steps (Steps.trans harr (.one step_inLoop)) harr₂⟩
        | exit id => exact ⟨_, a₁, w₁, hq, .pass (x := .inLoop c) rfl (fun _ _ => .inl (by simp)) harr⟩
        | goto l => exact ⟨_, a₁, w₁, hq, .pass (x := .inLoop c) rfl (fun _ _ => .inl (by simp)) harr⟩
        | ret => exact ⟨_, a₁, w₁, hq, .pass (x := .inLoop c) rfl (fun _ _ => .inl (by simp)) harr⟩
        | panic ch => exact ⟨_, a₁, w₁, hq, .pass (x := .inLoop c) rfl (fun _ _ => .inl (by simp)) harr⟩
        | outgrown => exact ⟨_, a₁, w₁, hq, .pass (x := .inLoop c) rfl (fun _ _ => .inl (by simp)) harr⟩
    intro b ks cs
    obtain ⟨e, a', w', hq, harr⟩ := key N tm σ β a w h hs b ks cs
    exact ⟨e, a', w', hq, .of_steps (.one step_loop) harr⟩
  | exit id => intro tm σ K β a w Q h hs hK; exact wp_exit (hK (.exit id) tm σ β a w hs h)
  | ret => intro tm σ K β a w Q h hs hK; exact wp_ret (hK .ret tm σ β a w hs h)
  | rangeFunc f ps x y => intro tm σ K β a w Q h; simp [exec] at h
  | scope c => intro tm σ K β a w Q h; simp [exec] at h
  | goto l => intro tm σ K β a w Q h; simp [exec] at h
  | refuse w => intro tm σ K β a w Q h; simp [exec] at h

/-! ### Functions -/
def resL (P : Program) : List ResultVar → Env → LH → Option (List Value)
  | [], _, _ => some []
  | .tmp t :: r, tm, σ => match resL P r tm σ with
    | some vs => some (look tm t :: vs)
    | none => none
  | .cell x ty :: r, tm, σ => match loadL P ty (look tm x) σ with
    | some v => (match resL P r tm σ with
      | some vs => some (v :: vs)
      | none => none)
    | none => none

def resV : List Value → Option Value
  | [v] => some v
  | vs => match vs.all plain with
    | true => some (.tuple vs.toArray)
    | false => none

def enumFrom : Nat → List Value → Env
  | _, [] => []
  | k, v :: r => (k, v) :: enumFrom (k + 1) r

def run1 (P : Program) (Φ : Tab) (N : Nat) (fn : Func) (args : List Value) (σ : LH) : Option (Value × LH) :=
  match fn.body with
  | some c => (match Nat.ble args.length fn.ntmps with
    | true => exec P Φ σ.length fn.ntmps N c (enumFrom 0 args) σ fun e tm σ' => match e with
      | .exit _ => none
      | _ => (match resL P fn.results.toList tm σ' with
        | some vs => (match resV vs with
          | some v => (match plain v with
            | true => some (v, σ)
            | false => some (v, σ'))
          | none => none)
        | none => none)
    | false => none)
  | none => none

def resF (tmps : Array Value) (x : ResultVar) : Sem Value :=
  match x with
  | .tmp t => pure (tmps.getD t undef)
  | .cell x t => do loadVar t (← asAddr (tmps.getD x undef))

theorem resL_run {P : Program} {β : Nat → Nat} {n : Nat} {tm : Env} {σ : LH} {a : Act} {w : World} (hf : Fr n β tm a) (he : ∀ p ∈ tm, inn σ.length p.2 = true) (hl : Lies β σ w) :
    ∀ (l : List ResultVar) (vs : List Value), resL P l tm σ = some vs →
      (l.mapM (resF a.tmps)).run P w = .ok (vs.map (rl β)) w ∧ ∀ v ∈ vs, inn σ.length v = true := by
  intro l
  induction l with
  | nil => intro vs h; simp only [resL, Option.some.injEq] at h; subst h; exact ⟨rfl, fun v hv => by simp at hv⟩
  | cons x r ih =>
    intro vs h
    cases x with
    | tmp t =>
      simp only [resL] at h
      split at h
      case h_2 => simp at h
      rename_i vs' hr
      simp only [Option.some.injEq] at h
      subst h
      obtain ⟨h1, h2⟩ := ih vs' hr
      refine ⟨?_, fun v hv => ?_⟩
      · simp only [List.mapM_cons, resF, Sem.run_bind, Sem.run_pure, Result.andThen_ok, List.map_cons, hf.val t]
        rw [h1]
        rfl
      · rcases List.mem_cons.1 hv with rfl | hv
        · exact look_inn he t
        · exact h2 v hv
    | cell x ty =>
      simp only [resL] at h
      split at h
      case h_2 => simp at h
      rename_i v hv
      split at h
      case h_2 => simp at h
      rename_i vs' hr
      simp only [Option.some.injEq] at h
      subst h
      obtain ⟨h1, h2⟩ := ih vs' hr
      obtain ⟨h3, h4⟩ := loadL_run hl hv
      have hp : ∃ ad, rl β (look tm x) = .pointer (some ad) := by
        unfold loadL at hv
        split at hv
        · rename_i hlk
          rw [hlk]
          exact ⟨_, rfl⟩
        · simp at hv
      obtain ⟨ad, had⟩ := hp
      refine ⟨?_, fun u hu => ?_⟩
      · have h3' : (loadVar ty ad).run P w = .ok (rl β v) w := by
          rw [had] at h3
          simpa [Instr.loadAt, Instr.sureAddr] using h3
        simp only [List.mapM_cons, resF, Sem.run_bind, hf.val x, had, asAddr, Sem.run_pure, Result.andThen_ok, h3', List.map_cons]
        rw [h1]
        rfl
      · rcases List.mem_cons.1 hu with rfl | hu
        · exact h4
        · exact h2 u hu

theorem results_run {P : Program} {fn : Func} {β : Nat → Nat} {n : Nat} {tm : Env} {σ : LH} {a : Act} {w : World} (hf : Fr n β tm a) (he : ∀ p ∈ tm, inn σ.length p.2 = true) (hl : Lies β σ w)
    {vs : List Value} {v : Value} (h : resL P fn.results.toList tm σ = some vs) (hv : resV vs = some v) : (results fn a.tmps).run P w = .ok (rl β v) w ∧ inn σ.length v = true := by
  obtain ⟨h1, h2⟩ := resL_run hf he hl fn.results.toList vs h
  have hr : (results fn a.tmps).run P w = .ok (if h : (vs.map (rl β)).toArray.size = 1 then (vs.map (rl β)).toArray[0] else .tuple (vs.map (rl β)).toArray) w := by
    show ((fn.results.mapM (resF a.tmps)) >>= fun vs => pure (if h : vs.size = 1 then vs[0] else .tuple vs)).run P w = _
    rw [Array.mapM_eq_mapM_toList]
    simp only [Sem.run_bind, Sem.run_map]
    rw [h1]
    rfl
  rw [hr]
  unfold resV at hv
  split at hv
  · rename_i u
    simp only [Option.some.injEq] at hv
    subst hv
    exact ⟨by simp, h2 u (by simp)⟩
  · rename_i hne
    split at hv
    case h_2 => simp at hv
    rename_i hp
    simp only [Option.some.injEq] at hv
    subst hv
    simp only [List.all_eq_true] at hp
    have hmap : vs.map (rl β) = vs := by
      conv => rhs; rw [← List.map_id vs]
      exact List.map_congr_left fun x hx => rl_plain (hp x hx)
    refine ⟨?_, rfl⟩
    have hsz : ¬ (vs.map (rl β)).toArray.size = 1 := by
      simp only [List.size_toArray, List.length_map]
      intro hl1
      obtain ⟨u, hu⟩ := List.length_eq_one_iff.1 hl1
      exact hne u hu
    rw [dif_neg hsz, hmap]
    rfl

theorem look_enum : ∀ (l : List Value) (k t : Nat), look (enumFrom k l) t = if k ≤ t then (l[t - k]?).getD undef else undef := by
  intro l
  induction l with
  | nil => intro k t; simp [enumFrom, look]
  | cons v r ih =>
    intro k t
    simp only [enumFrom, look]
    by_cases hkt : k = t
    · subst hkt
      rw [Nat.beq_refl]
      simp
    · have : Nat.beq k t = false := by
        cases hb : Nat.beq k t
        · rfl
        · exact absurd (Nat.eq_of_beq_eq_true hb) hkt
      rw [this]
      simp only []
      rw [ih (k + 1) t]
      by_cases h1 : k ≤ t
      · rw [if_pos h1, if_pos (by omega), show t - k = (t - (k + 1)) + 1 by omega]
        simp
      · rw [if_neg h1, if_neg (by omega)]

/-- **A function's contract: what the interpreter says of its body.** -/
theorem gives {P : Program} (hm : P.follows .mixedOrders = true) {Φ : Tab} (hΦ : Φ.Ok P) {g : FuncId} {fn : Func} {N : Nat} {args : List Value} {σ σ' : LH} {v : Value}
    (hf : P.funcs[g]? = some fn) (hname : (fn.name == "runtime.NumGoroutine") = false) (h : run1 P Φ N fn args σ = some (v, σ')) : Gives P g args σ v σ' := by
  unfold run1 at h
  split at h
  case h_2 => simp at h
  rename_i c hc
  split at h
  case h_2 => simp at h
  rename_i hle
  have hle' : args.length ≤ fn.ntmps := Nat.le_of_ble_eq_true hle
  have hname' : ¬ fn.name = "runtime.NumGoroutine" := by simpa using hname
  refine ⟨fun as w => by simp [callFunc, hf, hname', hc], fun β w hl ha => ?_⟩
  refine calls_of_wp hf hc ?_
  have hs : St σ w β fn.ntmps β (enumFrom 0 args) σ { tmps := (args.map (rl β)).toArray ++ Array.replicate (fn.ntmps - (args.map (rl β)).toArray.size) undef, defers := [] } w := by
    refine ⟨⟨by simp; omega, fun t => ?_, rfl⟩, ?_, Hp.start hl⟩
    · rw [look_enum]
      simp only [Nat.zero_le, if_true, Nat.sub_zero]
      by_cases ht : t < args.length
      · simp [Array.getD_eq_getD_getElem?, Array.getElem?_append, ht]
      · have : args[t]? = none := List.getElem?_eq_none (by omega)
        rw [this]
        simp only [Option.getD_none, rl_undef, Array.getD_eq_getD_getElem?, Array.getElem?_append, List.size_toArray, List.length_map, ht, if_false]
        rw [Array.getElem?_replicate]
        split <;> rfl
    · intro p hp
      have : ∀ (l : List Value) (k : Nat), (∀ x ∈ l, inn σ.length x = true) → ∀ p ∈ enumFrom k l, inn σ.length p.2 = true := by
        intro l
        induction l with
        | nil => intro k _ p hp; simp [enumFrom] at hp
        | cons x r ih =>
          intro k hx p hp
          simp only [enumFrom, List.mem_cons] at hp
          rcases hp with rfl | hp
          · exact hx x (by simp)
          · exact ih (k + 1) (fun y hy => hx y (by simp [hy])) p hp
      exact this args 0 ha p hp
  refine exec_run hm hΦ c _ _ _ β _ w _ h hs ?_
  intro lx tm' s β' a' w' hs' hk
  have fin : (match resL P fn.results.toList tm' s with
        | some vs => (match resV vs with
          | some v => (match plain v with
            | true => some (v, σ)
            | false => some (v, s))
          | none => none)
        | none => none) = some (v, σ') →
      a'.defers = [] ∧ ∃ u, (results fn a'.tmps).run P w' = .ok u w' ∧ ∃ β', Ending.returned u = .returned (rl β' v) ∧ inn σ'.length v = true ∧ Hp σ w β β' σ' w' := by
    intro hk
    split at hk
    case h_2 => simp at hk
    rename_i vs hvs
    split at hk
    case h_2 => simp at hk
    rename_i u hu
    obtain ⟨h1, h2⟩ := results_run hs'.fr hs'.env hs'.hp.lies hvs hu
    refine ⟨hs'.fr.defers, _, h1, ?_⟩
    split at hk
    · rename_i hp
      simp only [Option.some.injEq, Prod.mk.injEq] at hk
      obtain ⟨rfl, rfl⟩ := hk
      refine ⟨β', rfl, plain_inn hp, ?_⟩
      have hh := hs'.hp
      have hm' := hh.mle
      refine ⟨⟨fun i c t hi => ?_, hl.sc⟩, Nat.le_refl _, fun _ _ => rfl, hh.ext, hh.low, fun i h1 h2 => absurd h2 (by omega), fun i j h1 h2 h3 => absurd h3 (by omega), hh.below⟩
      have hlt := (List.getElem?_eq_some_iff.1 hi).1
      exact hh.lies.blk i c t (by rw [hh.pre i hlt]; exact hi)
    · simp only [Option.some.injEq, Prod.mk.injEq] at hk
      obtain ⟨rfl, rfl⟩ := hk
      exact ⟨β', rfl, h2, hs'.hp⟩
  cases lx with
  | exit id => simp at hk
  | normal => exact fin hk
  | ret => exact fin hk

/-- Numbers, texts and structs by value go in, such come out, and the memory that was there stays as it was. -/
def GivesV (P : Program) (g : FuncId) (args : List Value) (v : Value) : Prop := ∀ σ, Gives P g args σ v σ

theorem GivesV.calls {P : Program} {g : FuncId} {args : List Value} {v : Value} (h : GivesV P g args v) (ha : args.all plain = true) (hv : plain v = true) (w : World) :
    Calls P g args.toArray w fun e w' => e = .returned v ∧ Below w.heap.size w w' := by
  simp only [List.all_eq_true] at ha
  have hmap : args.map (rl id) = args := by
    conv => rhs; rw [← List.map_id args]
    exact List.map_congr_left fun x hx => rl_plain (ha x hx)
  have := (h []).2 id w ⟨fun i c t hi => by simp at hi, fun i c t hi => by simp at hi⟩ fun x hx => plain_inn (ha x hx)
  rw [hmap] at this
  refine this.mono ?_
  rintro e w' ⟨β', rfl, _, hp⟩
  rw [rl_plain hv]
  exact ⟨rfl, hp.below⟩

end Go.RX
