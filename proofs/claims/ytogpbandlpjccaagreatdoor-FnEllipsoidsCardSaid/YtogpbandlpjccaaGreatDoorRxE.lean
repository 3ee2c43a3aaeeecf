/- Code, loops, whole functions. -/
import Derived.Test.YtogpbandlpjccaaGreatDoorRxJ
import Derived.Test.YtogpbandlpjccaaGreatDoorRxK
set_option linter.unusedSimpArgs false
set_option linter.unusedVariables false
namespace Go.RX
open Go.RowKit
inductive LX where
 | normal
 | exit (id : Nat)
 | ret
def LX.up : LX → Exit
 | .normal => .normal
 | .exit id => .exit id
 | .ret => .ret
def loopN {R : Type} (P : Program) (m : Nat) (ls : Option (List Nat)) : Nat → (Env → LH → (LX → Env → LH → Option R) → Option R) → Env → LH → (LX → Env → LH → Option R) → Option R
 | 0, _, _, _, _ => none
 | k + 1, f, tm, σ, K => f tm σ fun e tm' σ' => match e with
  | .normal => (match norm P m ls tm' σ' with | (tm2, σ2) => loopN P m ls k f tm2 σ2 K)
  | .exit id => (match norm P m ls tm' σ' with | (tm2, σ2) => K (.exit id) tm2 σ2)
  | .ret => K .ret (restr ls tm') σ'
def growsA (Φ : Tab) (ops : Array Oper) : Bool := (ops.toList.take (preN ops)).any fun o => match o.op with
 | .call ⟨.value (.func g), _, _⟩ => !(Φ.free g)
 | .buildSlice .. => true
 | _ => false
def grows (Φ : Tab) (ops : Array Oper) : Bool := Nat.beq (spN ops) 0 && growsA Φ ops
def growsD (Φ : Tab) (ops : Array Oper) : Bool := ((ops.toList.take (preN ops)).any fun o => isAlo o.op) && growsA Φ ops
def loopId : Code → Nat
 | .region id _ _ => id
 | .seq a _ => loopId a
 | .cond _ a _ => loopId a
 | .block _ a => loopId a
 | .loop a => loopId a
 | .scope a => loopId a
 | _ => 0
def loopsOf : Code → List Code
 | .seq a b => loopsOf a ++ loopsOf b
 | .cond _ a b => loopsOf a ++ loopsOf b
 | .block _ a => loopsOf a
 | .loop a => a :: loopsOf a
 | _ => []
structure Lam where
 has : Nat → Bool
 f : ∀ (R : Type), Nat → Env → LH → (LX → Env → LH → Option R) → Option R
def noL : Lam := ⟨fun _ => false, fun _ _ _ _ _ => none⟩
def exec {R : Type} (P : Program) (Φ : Tab) (m n N : Nat) (ls : Option (List Nat)) (Λ : Lam) : Code → Env → LH → (LX → Env → LH → Option R) → Option R
 | .skip, tm, σ, K => K .normal tm σ
 | .label _, tm, σ, K => K .normal tm σ
 | .region _ ops draw, tm, σ, K => match draw with
  | false => evOps P Φ m n ops ops.toList tm σ fun tm' σ' => K .normal tm' σ'
  | true => (match drawOk ops with
   | true => (match growsD Φ ops with
    | true => none
    | false => (match Nat.ble 2 (spN ops) with
    | true => evDrawB P Φ m n ops (ops.toList.take (preN ops)) tm σ [] [] fun tm σ => evOps P Φ m n ops (ops.toList.drop (preN ops)) tm σ fun tm' σ' => K .normal tm' σ'
    | false => (match grows Φ ops with
     | true => evDrawC P Φ m n ops (ops.toList.take (preN ops)) 0 none tm σ σ fun tm σ => evOps P Φ m n ops (ops.toList.drop (preN ops)) tm σ fun tm' σ' => K .normal tm' σ'
     | false => evDraw P Φ m n ops (spOf ops) (ops.toList.take (preN ops)) 0 tm σ none fun tm σ => evOps P Φ m n ops (ops.toList.drop (preN ops)) tm σ fun tm' σ' => K .normal tm' σ')))
   | false => none)
 | .seq a b, tm, σ, K => exec P Φ m n N ls Λ a tm σ fun e tm' σ' => match e with
  | .normal => exec P Φ m n N ls Λ b tm' σ' K
  | .exit id => K (.exit id) tm' σ'
  | .ret => K .ret tm' σ'
 | .cond c x y, tm, σ, K => match evOk tm c with
  | true => (match ev tm c with
   | .bool t => (match t with
    | true => exec P Φ m n N ls Λ x tm σ K
    | false => exec P Φ m n N ls Λ y tm σ K)
   | _ => none)
  | false => none
 | .block id c, tm, σ, K => exec P Φ m n N ls Λ c tm σ fun e tm' σ' => match e with
  | .normal => K .normal tm' σ'
  | .exit id' => (match Nat.beq id' id with
   | true => K .normal tm' σ'
   | false => K (.exit id') tm' σ')
  | .ret => K .ret tm' σ'
 | .loop c, tm, σ, K => match norm P m ls tm σ with
  | (tm2, σ2) => (match Λ.has (loopId c) with
   | true => Λ.f R (loopId c) tm2 σ2 fun e tm' σ' => match e with
    | .normal => none
    | .exit id => K (.exit id) tm' σ'
    | .ret => K .ret tm' σ'
   | false => loopN P m ls N (exec P Φ m n N ls Λ c) tm2 σ2 K)
 | .exit id, tm, σ, K => K (.exit id) tm σ
 | .ret, tm, σ, K => K .ret tm σ
 | _, _, _, _ => none
def LoopTo (P : Program) (Φ : Tab) (m n N : Nat) (ls : Option (List Nat)) (Λ : Lam) (c : Code) (tm : Env) (σ : LH) (e : LX) (tm' : Env) (σ' : LH) : Prop :=
 ∀ (R : Type) (K : LX → Env → LH → Option R) (r : R), K e tm' σ' = some r → ∃ k, loopN P m ls k (exec P Φ m n N ls Λ c) tm σ K = some r
def LamOk (P : Program) (Φ : Tab) (m n N : Nat) (ls : Option (List Nat)) (Λ : Lam) (cs : List Code) : Prop :=
 ∀ c ∈ cs, ∀ (R : Type) tm σ (K : LX → Env → LH → Option R) r, Λ.f R (loopId c) tm σ K = some r → ∃ e tm' σ', K e tm' σ' = some r ∧ LoopTo P Φ m n N ls Λ c tm σ e tm' σ'
theorem noL_ok {P : Program} {Φ : Tab} {m n N : Nat} {ls : Option (List Nat)} {cs : List Code} : LamOk P Φ m n N ls noL cs := fun c _ R tm σ K r h => by simp [noL] at h
theorem look_pick (tm : Env) : ∀ (l : List Nat) (t : Nat), has (l.map fun t => (t, look tm t)) t = true → look (l.map fun t => (t, look tm t)) t = look tm t ∧ t ∈ l := by
 intro l
 induction l with
 | nil => intro t h; simp [has] at h
 | cons k r ih =>
  intro t h
  simp only [List.map_cons, has] at h
  simp only [List.map_cons, look]
  cases hb : Nat.beq k t with
  | true =>
   have hkt := Nat.eq_of_beq_eq_true hb
   subst hkt
   exact ⟨rfl, by simp⟩
  | false =>
   rw [hb] at h
   obtain ⟨h1, h2⟩ := ih t h
   exact ⟨h1, by simp [h2]⟩
theorem St.restr {σ0 σ : LH} {W w : World} {β0 β βb : Nat → Pl} {n nb : Nat} {tm : Env} {a : Act} (ls : Option (List Nat)) (h : St σ0 W β0 n nb βb β tm σ a w) : St σ0 W β0 n nb βb β (restr ls tm) σ a w := by
 cases ls with
 | none => exact h
 | some l =>
  refine ⟨⟨h.fr.size, fun t ht => ?_, h.fr.defers⟩, fun p hp => ?_, h.hp, h.nle, h.bext⟩
  ·obtain ⟨h1, h2⟩ := look_pick tm _ t ht
   have : has tm t = true := (List.mem_filter.1 h2).2
   show _ = rl β (look ((l.filter (has tm)).map fun t => (t, look tm t)) t)
   rw [h1]
   exact h.fr.val t this
  ·unfold RX.restr at hp
   simp only [List.mem_map] at hp
   obtain ⟨t, _, rfl⟩ := hp
   exact look_inn h.env t
theorem St.norm {P : Program} {σ0 σ : LH} {W w : World} {β0 β βb : Nat → Pl} {n nb : Nat} {tm : Env} {a : Act} (ls : Option (List Nat)) (hg : gcOn ls = true → nb ≤ σ0.length) (h : St σ0 W β0 n nb βb β tm σ a w) :
  ∃ β', St σ0 W β0 n nb βb β' (norm P σ0.length ls tm σ).1 (norm P σ0.length ls tm σ).2 a w := by
 unfold RX.norm
 split
 ·exact ⟨β, h.restr ls⟩
 ·rename_i hgc
  obtain ⟨β1, h1⟩ := (h.restr ls).ghost (P := P) σ.length σ β
  obtain ⟨β2, h2⟩ := h1.ghostT (P := P) (hintsOf ls) _ _ β1
  exact St.gc (hg hgc) _ _ _ β2 h2 (Nat.le_refl _)
theorem exec_run {R : Type} {P : Program} (hm : P.follows .mixedOrders = true) {Φ : Tab} {W : World} (hΦ : Φ.Ok P W) {σ0 : LH} {β0 βb : Nat → Pl} {n nb N : Nat} {ls : Option (List Nat)} {Λ : Lam} {r : R} (hg : gcOn ls = true → nb ≤ σ0.length) (c : Code) :
  LamOk P Φ σ0.length n N ls Λ (loopsOf c) →
  ∀ (tm : Env) (σ : LH) (K : LX → Env → LH → Option R) (β : Nat → Pl) (a : Act) (w : World) (Q : Exit → Act → World → Prop),
   exec P Φ σ0.length n N ls Λ c tm σ K = some r → St σ0 W β0 n nb βb β tm σ a w →
   (∀ lx tm' σ' β' a' w', St σ0 W β0 n nb βb β' tm' σ' a' w' → K lx tm' σ' = some r → Q lx.up a' w') → c.wp P Q a w := by
 induction c with
 | skip => intro hL tm σ K β a w Q h hs hK; exact wp_skip (hK .normal tm σ β a w hs h)
 | label l => intro hL tm σ K β a w Q h hs hK; exact wp_label (hK .normal tm σ β a w hs h)
 | region id ops draw =>
  intro hL tm σ K β a w Q h hs hK
  cases draw with
  | false =>
   simp only [exec] at h
   refine wp_region ?_
   have := evOps_run hΦ (Q := Q) (fun tm' σ' β' a' w' hs' hk => hK .normal tm' σ' β' a' w' hs' hk) ops.toList 0 tm σ β a w rfl hs h
   rw [List.range_eq_range']
   simpa using this
  | true =>
   simp only [exec] at h
   split at h
   case h_2 => simp at h
   rename_i hd
   split at h
   ·simp at h
   split at h
   ·exact evDrawB_run hm hΦ hd hs h fun tm' σ' β' a' w' hs' hk => hK .normal tm' σ' β' a' w' hs' hk
   ·split at h
    ·exact evDrawC_run hm hΦ hd hs h fun tm' σ' β' a' w' hs' hk => hK .normal tm' σ' β' a' w' hs' hk
    ·exact evDraw_run hm hΦ hd hs h fun tm' σ' β' a' w' hs' hk => hK .normal tm' σ' β' a' w' hs' hk
 | seq x y ihx ihy =>
  intro hL tm σ K β a w Q h hs hK
  simp only [exec] at h
  refine wp_seq (ihx (fun c hc => hL c (by simp [loopsOf, hc])) tm σ _ β a w _ h hs ?_)
  intro lx tm' σ' β' a' w' hs' hk
  cases lx with
  | normal => exact ihy (fun c hc => hL c (by simp [loopsOf, hc])) tm' σ' K β' a' w' Q hk hs' hK
  | exit id => exact hK (.exit id) tm' σ' β' a' w' hs' hk
  | ret => exact hK .ret tm' σ' β' a' w' hs' hk
 | cond c x y ihx ihy =>
  intro hL tm σ K β a w Q h hs hK
  simp only [exec] at h
  split at h
  case h_2 => simp at h
  rename_i hok
  split at h
  case h_2 => simp at h
  rename_i t ht
  have hc : a.eval c = .bool t := by rw [hs.fr.eval hok, ht]; rfl
  split at h
  ·exact wp_cond_true hc (ihx (fun c hc => hL c (by simp [loopsOf, hc])) tm σ K β a w Q h hs hK)
  ·exact wp_cond_false hc (ihy (fun c hc => hL c (by simp [loopsOf, hc])) tm σ K β a w Q h hs hK)
 | block id c ih =>
  intro hL tm σ K β a w Q h hs hK
  simp only [exec] at h
  refine wp_block (ih hL tm σ _ β a w _ h hs ?_)
  intro lx tm' σ' β' a' w' hs' hk
  cases lx with
  | normal => exact hK .normal tm' σ' β' a' w' hs' hk
  | exit id' =>
   simp only [] at hk
   show if id' = id then Q .normal a' w' else Q (.exit id') a' w'
   split at hk
   ·rename_i hb
    rw [if_pos (Nat.eq_of_beq_eq_true hb)]
    exact hK .normal tm' σ' β' a' w' hs' hk
   ·rename_i hb
    rw [if_neg (fun e => by subst e; rw [Nat.beq_refl] at hb; cases hb)]
    exact hK (.exit id') tm' σ' β' a' w' hs' hk
  | ret => exact hK .ret tm' σ' β' a' w' hs' hk
 | loop c ih =>
  intro hL tm σ K β a w Q h hs hK
  simp only [exec] at h
  have key : ∀ (k : Nat) (tm : Env) (σ : LH) (β : Nat → Pl) (a : Act) (w : World), loopN P σ0.length ls k (exec P Φ σ0.length n N ls Λ c) tm σ K = some r → St σ0 W β0 n nb βb β tm σ a w →
    ∀ (b : Frame) (ks : List Item) (cs : List Frame), ∃ e a' w', Q e a' w' ∧ Arrives P (lone (b.at a (.code c :: .inLoop c :: ks)) cs w) b ks cs e a' w' := by
   intro k
   induction k with
   | zero => intro tm σ β a w h; simp [loopN] at h
   | succ k ihk =>
    intro tm σ β a w h hs b ks cs
    simp only [loopN] at h
    have hc : c.wp P (Exit.then (fun a' w' => ∀ (b : Frame) (ks : List Item) (cs : List Frame), ∃ e a'' w'', Q e a'' w'' ∧ Arrives P (lone (b.at a' (.code c :: .inLoop c :: ks)) cs w') b ks cs e a'' w'') Q) a w := by
     refine ih (fun c hc => hL c (by simp [loopsOf, hc])) tm σ _ β a w _ h hs ?_
     intro lx tm' σ' β' a' w' hs' hk
     cases lx with
     | normal =>
      obtain ⟨β2, hs2⟩ := hs'.norm (P := P) ls hg
      exact ihk _ _ β2 a' w' hk hs2
     | exit id =>
      obtain ⟨β2, hs2⟩ := hs'.norm (P := P) ls hg
      exact hK (.exit id) _ _ β2 a' w' hs2 hk
     | ret => exact hK .ret _ σ' β' a' w' (hs'.restr ls) hk
    obtain ⟨e, a₁, w₁, hq, harr⟩ := hc b (.inLoop c :: ks) cs
    cases e with
    | normal =>
     obtain ⟨e₂, a₂, w₂, hq₂, harr₂⟩ := hq b ks cs
     exact ⟨e₂, a₂, w₂, hq₂, .of_steps (Steps.trans harr (.one step_inLoop)) harr₂⟩
    | exit id => exact ⟨_, a₁, w₁, hq, .pass (x := .inLoop c) rfl (fun _ _ => .inl (by simp)) harr⟩
    | goto l => exact ⟨_, a₁, w₁, hq, .pass (x := .inLoop c) rfl (fun _ _ => .inl (by simp)) harr⟩
    | ret => exact ⟨_, a₁, w₁, hq, .pass (x := .inLoop c) rfl (fun _ _ => .inl (by simp)) harr⟩
    | panic ch => exact ⟨_, a₁, w₁, hq, .pass (x := .inLoop c) rfl (fun _ _ => .inl (by simp)) harr⟩
    | outgrown => exact ⟨_, a₁, w₁, hq, .pass (x := .inLoop c) rfl (fun _ _ => .inl (by simp)) harr⟩
  have start : ∃ k, loopN P σ0.length ls k (exec P Φ σ0.length n N ls Λ c) (RX.norm P σ0.length ls tm σ).1 (RX.norm P σ0.length ls tm σ).2 K = some r := by
   split at h
   ·obtain ⟨e, tm', σ', h, hto⟩ := hL c (by simp [loopsOf]) _ _ _ _ _ h
    cases e with
    | normal => simp at h
    | exit id => exact hto R K r h
    | ret => exact hto R K r h
   ·exact ⟨N, h⟩
  obtain ⟨k0, h0⟩ := start
  intro b ks cs
  obtain ⟨β2, hs2⟩ := hs.norm (P := P) ls hg
  obtain ⟨e, a', w', hq, harr⟩ := key k0 _ _ β2 a w h0 hs2 b ks cs
  exact ⟨e, a', w', hq, .of_steps (.one step_loop) harr⟩
 | exit id => intro hL tm σ K β a w Q h hs hK; exact wp_exit (hK (.exit id) tm σ β a w hs h)
 | ret => intro hL tm σ K β a w Q h hs hK; exact wp_ret (hK .ret tm σ β a w hs h)
 | rangeFunc f ps x y => intro hL tm σ K β a w Q h; simp [exec] at h
 | scope c => intro hL tm σ K β a w Q h; simp [exec] at h
 | goto l => intro hL tm σ K β a w Q h; simp [exec] at h
 | refuse w => intro hL tm σ K β a w Q h; simp [exec] at h
def resL (P : Program) : List ResultVar → Env → LH → Option (List Value)
 | [], _, _ => some []
 | .tmp t :: r, tm, σ => match has tm t with
  | true => (match resL P r tm σ with
   | some vs => some (look tm t :: vs)
   | none => none)
  | false => none
 | .cell x ty :: r, tm, σ => match has tm x with
  | true => (match loadL P ty (look tm x) σ with
   | some v => (match resL P r tm σ with
    | some vs => some (v :: vs)
    | none => none)
   | none => none)
  | false => none
def resV : List Value → Option Value
 | [v] => some v
 | vs => match vs.all ok0 with
  | true => some (.tuple vs.toArray)
  | false => none
def enumFrom : Nat → List Value → Env
 | _, [] => []
 | k, v :: r => (k, v) :: enumFrom (k + 1) r
def runK {R : Type} (P : Program) (Φ : Tab) (N : Nat) (ls : Option (List Nat)) (Λ : Lam) (fn : Func) (args : List Value) (m : Nat) (σ : LH) (K : Value → LH → Option R) : Option R :=
 match fn.body with
 | some c => (match Nat.ble args.length fn.ntmps with
  | true => exec P Φ m fn.ntmps N ls Λ c (enumFrom 0 args) σ fun e tm σ' => match e with
   | .exit _ => none
   | _ => (match resL P fn.results.toList tm σ' with
    | some vs => (match resV vs with
     | some v => K v σ'
     | none => none)
    | none => none)
  | false => none)
 | none => none
def run1 (P : Program) (Φ : Tab) (N : Nat) (ls : Option (List Nat)) (Λ : Lam) (fn : Func) (args : List Value) (σ : LH) : Option (Value × LH) :=
 runK P Φ N ls Λ fn args σ.length σ fun v σ' => match plain v with
  | true => some (v, σ)
  | false => some (v, σ')
def resF (tmps : Array Value) (x : ResultVar) : Sem Value :=
 match x with
 | .tmp t => pure (tmps.getD t undef)
 | .cell x t => do loadVar t (← asAddr (tmps.getD x undef))
theorem resL_run {P : Program} {β : Nat → Pl} {n : Nat} {tm : Env} {σ : LH} {a : Act} {w : World} (hf : Fr n β tm a) (he : ∀ p ∈ tm, inn σ.length p.2 = true) (hl : Lies β σ w) :
  ∀ (l : List ResultVar) (vs : List Value), resL P l tm σ = some vs →
   (l.mapM (resF a.tmps)).run P w = .ok (vs.map (rl β)) w ∧ ∀ v ∈ vs, inn σ.length v = true := by
 intro l
 induction l with
 | nil => intro vs h; simp only [resL, Option.some.injEq] at h; subst h; exact ⟨rfl, fun v hv => by simp at hv⟩
 | cons x r ih =>
  intro vs h
  cases x with
  | tmp t =>
   simp only [resL] at h
   split at h
   case h_2 => simp at h
   rename_i hht
   split at h
   case h_2 => simp at h
   rename_i vs' hr
   simp only [Option.some.injEq] at h
   subst h
   obtain ⟨h1, h2⟩ := ih vs' hr
   refine ⟨?_, fun v hv => ?_⟩
   ·simp only [List.mapM_cons, resF, Sem.run_bind, Sem.run_pure, Result.andThen_ok, List.map_cons, hf.val t hht]
    rw [h1]
    rfl
   ·rcases List.mem_cons.1 hv with rfl | hv
    ·exact look_inn he t
    ·exact h2 v hv
  | cell x ty =>
   simp only [resL] at h
   split at h
   case h_2 => simp at h
   rename_i hht
   split at h
   case h_2 => simp at h
   rename_i v hv
   split at h
   case h_2 => simp at h
   rename_i vs' hr
   simp only [Option.some.injEq] at h
   subst h
   obtain ⟨h1, h2⟩ := ih vs' hr
   obtain ⟨h3, h4⟩ := loadL_run hl hv
   have hp : ∃ ad, rl β (look tm x) = .pointer (some ad) := by
    unfold loadL at hv
    split at hv
    ·rename_i hlk
     rw [hlk]
     exact ⟨_, rfl⟩
    ·simp at hv
   obtain ⟨ad, had⟩ := hp
   refine ⟨?_, fun u hu => ?_⟩
   ·have h3' : (loadVar ty ad).run P w = .ok (rl β v) w := by
     rw [had] at h3
     simpa [Instr.loadAt, Instr.sureAddr] using h3
    simp only [List.mapM_cons, resF, Sem.run_bind, hf.val x hht, had, asAddr, Sem.run_pure, Result.andThen_ok, h3', List.map_cons]
    rw [h1]
    rfl
   ·rcases List.mem_cons.1 hu with rfl | hu
    ·exact h4
    ·exact h2 u hu
theorem results_run {P : Program} {fn : Func} {β : Nat → Pl} {n : Nat} {tm : Env} {σ : LH} {a : Act} {w : World} (hf : Fr n β tm a) (he : ∀ p ∈ tm, inn σ.length p.2 = true) (hl : Lies β σ w)
  {vs : List Value} {v : Value} (h : resL P fn.results.toList tm σ = some vs) (hv : resV vs = some v) : (results fn a.tmps).run P w = .ok (rl β v) w ∧ inn σ.length v = true := by
 obtain ⟨h1, h2⟩ := resL_run hf he hl fn.results.toList vs h
 have hr : (results fn a.tmps).run P w = .ok (if h : (vs.map (rl β)).toArray.size = 1 then (vs.map (rl β)).toArray[0] else .tuple (vs.map (rl β)).toArray) w := by
  show ((fn.results.mapM (resF a.tmps)) >>= fun vs => pure (if h : vs.size = 1 then vs[0] else .tuple vs)).run P w = _
  rw [Array.mapM_eq_mapM_toList]
  simp only [Sem.run_bind, Sem.run_map]
  rw [h1]
  rfl
 rw [hr]
 unfold resV at hv
 split at hv
 ·rename_i u
  simp only [Option.some.injEq] at hv
  subst hv
  exact ⟨by simp, h2 u (by simp)⟩
 ·rename_i hne
  split at hv
  case h_2 => simp at hv
  rename_i hp
  simp only [Option.some.injEq] at hv
  subst hv
  simp only [List.all_eq_true] at hp
  have hmap : vs.map (rl β) = vs.map (rl0 β) := List.map_congr_left fun x hx => rl_ok0 (hp x hx)
  refine ⟨?_, ?_⟩
  ·have hsz : ¬ (vs.map (rl β)).toArray.size = 1 := by
    simp only [List.size_toArray, List.length_map]
    intro hl1
    obtain ⟨u, hu⟩ := List.length_eq_one_iff.1 hl1
    exact hne u hu
   rw [dif_neg hsz, hmap]
   simp [rl]
  ·simp only [inn, List.all_eq_true]
   exact fun x hx => inn_ok0 (hp x hx) (h2 x hx)
theorem look_enum : ∀ (l : List Value) (k t : Nat), look (enumFrom k l) t = if k ≤ t then (l[t - k]?).getD undef else undef := by
 intro l
 induction l with
 | nil => intro k t; simp [enumFrom, look]
 | cons v r ih =>
  intro k t
  simp only [enumFrom, look]
  by_cases hkt : k = t
  ·subst hkt
   rw [Nat.beq_refl]
   simp
  ·have : Nat.beq k t = false := by
    cases hb : Nat.beq k t
    ·rfl
    ·exact absurd (Nat.eq_of_beq_eq_true hb) hkt
   rw [this]
   simp only []
   rw [ih (k + 1) t]
   by_cases h1 : k ≤ t
   ·rw [if_pos h1, if_pos (by omega), show t - k = (t - (k + 1)) + 1 by omega]
    simp
   ·rw [if_neg h1, if_neg (by omega)]
theorem has_enum : ∀ (l : List Value) (k t : Nat), has (enumFrom k l) t = true → k ≤ t ∧ t < k + l.length := by
 intro l
 induction l with
 | nil => intro k t h; simp [enumFrom, has] at h
 | cons v r ih =>
  intro k t h
  simp only [enumFrom, has] at h
  split at h
  ·rename_i hb
   have := Nat.eq_of_beq_eq_true hb
   simp
   omega
  ·have := ih (k + 1) t h
   simp
   omega
theorem runK_calls {R : Type} {P : Program} (hm : P.follows .mixedOrders = true) {Φ : Tab} {W : World} (hΦ : Φ.Ok P W) {g : FuncId} {fn : Func} {N : Nat} {ls : Option (List Nat)} {Λ : Lam} {args : List Value} {σ0 σ : LH} {w : World} {β0 β : Nat → Pl}
  {K : Value → LH → Option R} {r : R} {Post : Ending → World → Prop}
  (hf : P.funcs[g]? = some fn) (hg : gcOn ls = true → σ.length ≤ σ0.length) (hL : ∀ c, fn.body = some c → LamOk P Φ σ0.length fn.ntmps N ls Λ (loopsOf c)) (hp : Hp σ0 W β0 β σ w) (ha : ∀ x ∈ args, inn σ.length x = true) (h : runK P Φ N ls Λ fn args σ0.length σ K = some r)
  (hK : ∀ v σ' β' w', (∀ i, i < σ.length → β' i = β i) → σ.length ≤ σ'.length → inn σ'.length v = true → Hp σ0 W β0 β' σ' w' → K v σ' = some r → Post (.returned (rl β' v)) w') :
  Calls P g (args.map (rl β)).toArray w Post := by
 unfold runK at h
 split at h
 case h_2 => simp at h
 rename_i c hc
 split at h
 case h_2 => simp at h
 rename_i hle
 have hle' : args.length ≤ fn.ntmps := Nat.le_of_ble_eq_true hle
 refine calls_of_wp hf hc ?_
 have hs : St σ0 W β0 fn.ntmps σ.length β β (enumFrom 0 args) σ { tmps := (args.map (rl β)).toArray ++ Array.replicate (fn.ntmps - (args.map (rl β)).toArray.size) undef, defers := [] } w := by
  refine ⟨⟨by simp; omega, fun t ht => ?_, rfl⟩, ?_, hp, Nat.le_refl _, fun _ _ => rfl⟩
  ·have := (has_enum args 0 t ht).2
   rw [look_enum]
   have ht' : t < args.length := by omega
   simp [Array.getD_eq_getD_getElem?, Array.getElem?_append, ht']
  ·have : ∀ (l : List Value) (k : Nat), (∀ x ∈ l, inn σ.length x = true) → ∀ p ∈ enumFrom k l, inn σ.length p.2 = true := by
    intro l
    induction l with
    | nil => intro k _ p hp; simp [enumFrom] at hp
    | cons x r ih =>
     intro k hx p hp
     simp only [enumFrom, List.mem_cons] at hp
     rcases hp with rfl | hp
     ·exact hx x (by simp)
     ·exact ih (k + 1) (fun y hy => hx y (by simp [hy])) p hp
   exact this args 0 ha
 refine exec_run hm hΦ hg c (hL c hc) _ _ _ β _ w _ h hs ?_
 intro lx tm' s β' a' w' hs' hk
 have fin : (match resL P fn.results.toList tm' s with
    | some vs => (match resV vs with
     | some v => K v s
     | none => none)
    | none => none) = some r →
   a'.defers = [] ∧ ∃ u, (results fn a'.tmps).run P w' = .ok u w' ∧ Post (.returned u) w' := by
  intro hk
  split at hk
  case h_2 => simp at hk
  rename_i vs hvs
  split at hk
  case h_2 => simp at hk
  rename_i u hu
  obtain ⟨h1, h2⟩ := results_run hs'.fr hs'.env hs'.hp.lies hvs hu
  exact ⟨hs'.fr.defers, _, h1, hK u s β' w' hs'.bext hs'.nle h2 hs'.hp hk⟩
 cases lx with
 | exit id => simp at hk
 | normal => exact fin hk
 | ret => exact fin hk
theorem enters_of {P : Program} {g : FuncId} {fn : Func} (hf : P.funcs[g]? = some fn) (hname : (fn.name == "runtime.NumGoroutine") = false) (hb : fn.body.isSome = true) (as : Array Value) (w : World) :
  (callFunc g as).run P w = .ok (.enter g as) w := by
 have hname' : ¬ fn.name = "runtime.NumGoroutine" := by simpa using hname
 obtain ⟨c, hc⟩ := Option.isSome_iff_exists.1 hb
 simp [callFunc, hf, hname', hc]
theorem runK_body {R : Type} {P : Program} {Φ : Tab} {N : Nat} {ls : Option (List Nat)} {Λ : Lam} {fn : Func} {args : List Value} {m : Nat} {σ : LH} {K : Value → LH → Option R} {r : R} (h : runK P Φ N ls Λ fn args m σ K = some r) : fn.body.isSome = true := by
 unfold runK at h
 split at h
 ·rename_i c hc; rw [hc]; rfl
 ·simp at h
theorem gives {P : Program} (hm : P.follows .mixedOrders = true) {Φ : Tab} {T : Prem} (hΦ : ∀ W, T.T W → Φ.Ok P W) {g : FuncId} {fn : Func} {N : Nat} {ls : Option (List Nat)} {Λ : Lam} {args : List Value} {σ σ' : LH} {v : Value}
  (hf : P.funcs[g]? = some fn) (hname : (fn.name == "runtime.NumGoroutine") = false) (hL : ∀ c, fn.body = some c → LamOk P Φ σ.length fn.ntmps N ls Λ (loopsOf c)) (h : run1 P Φ N ls Λ fn args σ = some (v, σ')) : GivesU P T g args σ v σ' := by
 unfold run1 at h
 refine ⟨enters_of hf hname (runK_body h), fun β w hTw hl hwi ha => ?_⟩
 refine runK_calls hm (hΦ w hTw) hf (fun _ => Nat.le_refl _) hL (Hp.start hl hwi) ha h ?_
 intro u s β' w' hb hle hu hp hk
 split at hk
 ·rename_i hpl
  simp only [Option.some.injEq, Prod.mk.injEq] at hk
  obtain ⟨rfl, rfl⟩ := hk
  refine ⟨β', rfl, plain_inn hpl, ?_⟩
  have hgt : ∀ i x, σ[i]? = some x → s[i]? = some x ∧ i < σ.length := fun i x hi => by
   have hlt := (List.getElem?_eq_some_iff.1 hi).1
   exact ⟨by rw [hp.pre i hlt]; exact hi, hlt⟩
  refine ⟨⟨fun i c t hi hn => hp.lies.blk i c t (hgt i _ hi).1 hn, hl.sc, fun i rows g z t hi => hp.lies.lst i rows g z t (hgt i _ hi).1⟩, Nat.le_refl _, fun _ _ => rfl, hp.ext, hp.low, fun i h1 h2 => absurd h2 (by omega), fun i j h1 h2 h3 => absurd h3 (by omega), fun i hi => hp.up i (by omega), hp.below⟩
 ·simp only [Option.some.injEq, Prod.mk.injEq] at hk
  obtain ⟨rfl, rfl⟩ := hk
  exact ⟨β', rfl, hu, hp⟩
theorem guardK_val {R : Type} {o : Oper} {ops : Array Oper} {tm : Env} {yes no : Env → Option R} {r : R} (h : guardK o ops tm yes no = some r) :
  ∃ tm1, (yes tm1 = some r ∧ ∀ (S : Type) (yes' no' : Env → Option S), guardK o ops tm yes' no' = yes' tm1) ∨ (no tm1 = some r ∧ ∀ (S : Type) (yes' no' : Env → Option S), guardK o ops tm yes' no' = no' tm1) := by
 unfold guardK at h
 (repeat' split at h) <;> first
  | (simp at h; done)
  | exact ⟨_, Or.inl ⟨h, fun S y n => by unfold guardK; simp only [*]⟩⟩
  | exact ⟨_, Or.inr ⟨h, fun S y n => by unfold guardK; simp only [*]⟩⟩
theorem evOps_val {R : Type} {P : Program} {Φ : Tab} {W : World} (hΦ : Φ.Ok P W) {m n : Nat} {ops : Array Oper} {K : Env → LH → Option R} {r : R} : ∀ (l : List Oper) (tm : Env) (σ : LH), evOps P Φ m n ops l tm σ K = some r →
  ∃ tm' σ', K tm' σ' = some r ∧ ∀ (S : Type) (K' : Env → LH → Option S), evOps P Φ m n ops l tm σ K' = K' tm' σ' := by
 intro l
 induction l with
 | nil => intro tm σ h; exact ⟨tm, σ, h, fun _ _ => rfl⟩
 | cons o rest ih =>
  intro tm σ h
  rw [evOps] at h
  obtain ⟨tm1, ⟨hy, hall⟩ | ⟨hn, hall⟩⟩ := guardK_val h
  ·obtain ⟨v, σ', b, h1, h2⟩ := step_val hΦ hy
   split at h1
   case h_2 => simp at h1
   rename_i tm' htm
   obtain ⟨tm2, σ2, h3, h4⟩ := ih tm' σ' h1
   exact ⟨tm2, σ2, h3, fun S K' => by rw [evOps, hall, h2]; simp only [htm]; exact h4 S K'⟩
  ·split at hn
   case h_2 => simp at hn
   rename_i tm' htm
   obtain ⟨tm2, σ2, h3, h4⟩ := ih tm' σ hn
   exact ⟨tm2, σ2, h3, fun S K' => by rw [evOps, hall]; simp only [htm]; exact h4 S K'⟩
theorem evDraw_val {R : Type} {P : Program} {Φ : Tab} {W : World} (hΦ : Φ.Ok P W) {m n : Nat} {ops : Array Oper} {sp : Option Oper} {σ : LH} {K : Env → LH → Option R} {r : R} : ∀ (l : List Oper) (i : Nat) (tm : Env) (E : Option LH), evDraw P Φ m n ops sp l i tm σ E K = some r →
  ∃ tm' σ', K tm' σ' = some r ∧ ∀ (S : Type) (K' : Env → LH → Option S), evDraw P Φ m n ops sp l i tm σ E K' = K' tm' σ' := by
 intro l
 induction l with
 | nil => intro i tm E h; exact ⟨tm, E.getD σ, h, fun _ _ => rfl⟩
 | cons o rest ih =>
  intro i tm E h
  rw [evDraw.eq_def] at h
  simp only [] at h
  cases hsp : isSp o.op with
  | true =>
   simp only [hsp] at h
   cases E with
   | some E0 => simp at h
   | none =>
   cases hg : o.guard with
   | some g => simp [hg] at h
   | none =>
   simp only [hg] at h
   obtain ⟨v, σ', b, h1, h2⟩ := step_val hΦ h
   split at h1
   case h_2 => simp at h1
   rename_i hl
   split at h1
   case h_2 => simp at h1
   rename_i tm' htm
   obtain ⟨tm2, σ2, h3, h4⟩ := ih (i + 1) tm' (some σ') h1
   exact ⟨tm2, σ2, h3, fun S K' => by rw [evDraw.eq_def]; simp only [hsp, hg]; rw [h2]; simp only [hl, htm]; exact h4 S K'⟩
  | false =>
   simp only [hsp] at h
   obtain ⟨tm1, ⟨hy, hall⟩ | ⟨hn, hall⟩⟩ := guardK_val h
   ·split at hy
    case h_2 => simp at hy
    rename_i hq
    obtain ⟨v, σ', b, h1, h2⟩ := step_val hΦ hy
    split at h1
    case h_2 => simp at h1
    rename_i hl
    split at h1
    case h_2 => simp at h1
    rename_i tm' htm
    obtain ⟨tm2, σ2, h3, h4⟩ := ih (i + 1) tm' E h1
    exact ⟨tm2, σ2, h3, fun S K' => by rw [evDraw.eq_def]; simp only [hsp]; rw [hall]; simp only [hq]; rw [h2]; simp only [hl, htm]; exact h4 S K'⟩
   ·split at hn
    case h_2 => simp at hn
    rename_i tm' htm
    obtain ⟨tm2, σ2, h3, h4⟩ := ih (i + 1) tm' E hn
    exact ⟨tm2, σ2, h3, fun S K' => by rw [evDraw.eq_def]; simp only [hsp]; rw [hall]; simp only [htm]; exact h4 S K'⟩
theorem evDrawC_val {R : Type} {P : Program} {Φ : Tab} {W : World} (hΦ : Φ.Ok P W) {m n : Nat} {ops : Array Oper} {σ : LH} {K : Env → LH → Option R} {r : R} : ∀ (l : List Oper) (i : Nat) (c : Option Nat) (tm : Env) (E : LH), evDrawC P Φ m n ops l i c tm σ E K = some r →
  ∃ tm' σ', K tm' σ' = some r ∧ ∀ (S : Type) (K' : Env → LH → Option S), evDrawC P Φ m n ops l i c tm σ E K' = K' tm' σ' := by
 intro l
 induction l with
 | nil => intro i c tm E h; exact ⟨tm, E, h, fun _ _ => rfl⟩
 | cons o rest ih =>
  intro i c tm E h
  rw [evDrawC.eq_def] at h
  simp only [] at h
  cases hc : isCh o.op with
  | true =>
   simp only [hc] at h
   split at h
   case h_2 => simp at h
   rename_i hb
   obtain ⟨tm1, ⟨hy, hall⟩ | ⟨hn, hall⟩⟩ := guardK_val h
   ·obtain ⟨v, σ', b, h1, h2⟩ := step_val hΦ hy
    split at h1
    case h_2 => simp at h1
    rename_i hl
    split at h1
    case h_2 => simp at h1
    rename_i tm' htm
    obtain ⟨tm2, σ2, h3, h4⟩ := ih _ _ tm' σ' h1
    exact ⟨tm2, σ2, h3, fun S K' => by rw [evDrawC.eq_def]; simp only [hc, hb]; rw [hall]; rw [h2]; simp only [hl, htm]; exact h4 S K'⟩
   ·split at hn
    case h_2 => simp at hn
    rename_i tm' htm
    obtain ⟨tm2, σ2, h3, h4⟩ := ih _ _ tm' E hn
    exact ⟨tm2, σ2, h3, fun S K' => by rw [evDrawC.eq_def]; simp only [hc, hb]; rw [hall]; simp only [htm]; exact h4 S K'⟩
  | false =>
   simp only [hc] at h
   obtain ⟨tm1, ⟨hy, hall⟩ | ⟨hn, hall⟩⟩ := guardK_val h
   ·split at hy
    case h_2 => simp at hy
    rename_i hq
    obtain ⟨v, σ', b, h1, h2⟩ := step_val hΦ hy
    split at h1
    case h_2 => simp at h1
    rename_i tm' htm
    obtain ⟨tm2, σ2, h3, h4⟩ := ih _ _ tm' E h1
    exact ⟨tm2, σ2, h3, fun S K' => by rw [evDrawC.eq_def]; simp only [hc]; rw [hall]; simp only [hq]; rw [h2]; simp only [htm]; exact h4 S K'⟩
   ·split at hn
    case h_2 => simp at hn
    rename_i tm' htm
    obtain ⟨tm2, σ2, h3, h4⟩ := ih _ _ tm' E hn
    exact ⟨tm2, σ2, h3, fun S K' => by rw [evDrawC.eq_def]; simp only [hc]; rw [hall]; simp only [htm]; exact h4 S K'⟩
theorem evDrawB_val {R : Type} {P : Program} {Φ : Tab} {W : World} (hΦ : Φ.Ok P W) {m n : Nat} {ops : Array Oper} {σ : LH} {K : Env → LH → Option R} {r : R} : ∀ (l : List Oper) (tm : Env) (E : LH) (fl : List Bool), evDrawB P Φ m n ops l tm σ E fl K = some r →
  ∃ tm' σ', K tm' σ' = some r ∧ ∀ (S : Type) (K' : Env → LH → Option S), evDrawB P Φ m n ops l tm σ E fl K' = K' tm' σ' := by
 intro l
 induction l with
 | nil =>
  intro tm E fl h
  simp only [evDrawB] at h
  split at h
  case h_2 => simp at h
  rename_i hE
  exact ⟨tm, σ ++ E, h, fun _ _ => by simp only [evDrawB, hE]⟩
 | cons o rest ih =>
  intro tm E fl h
  rw [evDrawB.eq_def] at h
  simp only [] at h
  cases hk : spK o.op with
  | bad => simp [hk] at h
  | al t =>
   simp only [hk] at h
   cases hg : o.guard with
   | some g => simp [hg] at h
   | none =>
   simp only [hg] at h
   split at h
   case h_2 => simp at h
   rename_i b hb
   split at h
   case h_2 => simp at h
   rename_i tm' htm
   obtain ⟨tm2, σ2, h3, h4⟩ := ih _ _ _ h
   exact ⟨tm2, σ2, h3, fun S K' => by rw [evDrawB.eq_def]; simp only [hk, hg, hb, htm]; exact h4 S K'⟩
  | st t x y =>
   simp only [hk] at h
   cases hg : o.guard with
   | some g => simp [hg] at h
   | none =>
   simp only [hg] at h
   split at h
   case h_2 => simp at h
   rename_i hxy
   split at h
   case h_2 => simp at h
   rename_i ρ0 off hnp
   split at h
   case h_2 => simp at h
   rename_i hf0
   split at h
   case h_2 => simp at h
   rename_i σ2 hst
   split at h
   case h_2 => simp at h
   rename_i tm' htm
   obtain ⟨tm2, σ2, h3, h4⟩ := ih _ _ _ h
   exact ⟨tm2, σ2, h3, fun S K' => by rw [evDrawB.eq_def]; simp only [hk, hg, hxy, hnp, hf0, hst, htm]; exact h4 S K'⟩
  | no =>
   simp only [hk] at h
   obtain ⟨tm1, ⟨hy, hall⟩ | ⟨hn, hall⟩⟩ := guardK_val h
   ·split at hy
    case h_2 => simp at hy
    rename_i hq
    obtain ⟨v, σ', b, h1, h2⟩ := step_val hΦ hy
    split at h1
    case h_2 => simp at h1
    rename_i hl
    split at h1
    case h_2 => simp at h1
    rename_i tm' htm
    obtain ⟨tm2, σ2, h3, h4⟩ := ih _ _ _ h1
    exact ⟨tm2, σ2, h3, fun S K' => by rw [evDrawB.eq_def]; simp only [hk]; rw [hall]; simp only [hq]; rw [h2]; simp only [hl, htm]; exact h4 S K'⟩
   ·split at hn
    case h_2 => simp at hn
    rename_i tm' htm
    obtain ⟨tm2, σ2, h3, h4⟩ := ih _ _ _ hn
    exact ⟨tm2, σ2, h3, fun S K' => by rw [evDrawB.eq_def]; simp only [hk]; rw [hall]; simp only [htm]; exact h4 S K'⟩
theorem exec_val {R : Type} {P : Program} {Φ : Tab} {W : World} (hΦ : Φ.Ok P W) {m n N : Nat} {ls : Option (List Nat)} {r : R} (c : Code) : ∀ (tm : Env) (σ : LH) (K : LX → Env → LH → Option R), exec P Φ m n N ls noL c tm σ K = some r →
  ∃ e tm' σ', K e tm' σ' = some r ∧ ∀ (S : Type) (K' : LX → Env → LH → Option S), exec P Φ m n N ls noL c tm σ K' = K' e tm' σ' := by
 induction c with
 | skip => intro tm σ K h; exact ⟨_, _, _, h, fun _ _ => rfl⟩
 | label l => intro tm σ K h; exact ⟨_, _, _, h, fun _ _ => rfl⟩
 | region id ops draw =>
  intro tm σ K h
  cases draw with
  | false =>
   simp only [exec] at h
   obtain ⟨tm', σ', h1, h2⟩ := evOps_val hΦ _ _ _ h
   exact ⟨_, _, _, h1, fun S K' => by simp only [exec]; exact h2 S _⟩
  | true =>
   simp only [exec] at h
   split at h
   case h_2 => simp at h
   rename_i hd
   split at h
   ·simp at h
   rename_i hD
   split at h
   ·rename_i hs
    obtain ⟨tm', σ', h1, h2⟩ := evDrawB_val hΦ _ _ _ _ h
    obtain ⟨tm2, σ2, h3, h4⟩ := evOps_val hΦ _ _ _ h1
    exact ⟨_, _, _, h3, fun S K' => by simp only [exec, hd, hD, hs]; rw [h2]; exact h4 S _⟩
   ·rename_i hs
    split at h
    ·rename_i hg
     obtain ⟨tm', σ', h1, h2⟩ := evDrawC_val hΦ _ _ _ _ _ h
     obtain ⟨tm2, σ2, h3, h4⟩ := evOps_val hΦ _ _ _ h1
     exact ⟨_, _, _, h3, fun S K' => by simp only [exec, hd, hD, hs, hg]; rw [h2]; exact h4 S _⟩
    ·rename_i hg
     obtain ⟨tm', σ', h1, h2⟩ := evDraw_val hΦ _ _ _ _ h
     obtain ⟨tm2, σ2, h3, h4⟩ := evOps_val hΦ _ _ _ h1
     exact ⟨_, _, _, h3, fun S K' => by simp only [exec, hd, hD, hs, hg]; rw [h2]; exact h4 S _⟩
 | seq x y ihx ihy =>
  intro tm σ K h
  simp only [exec] at h
  obtain ⟨e, tm', σ', h1, h2⟩ := ihx _ _ _ h
  cases e with
  | normal =>
   obtain ⟨e2, tm2, σ2, h3, h4⟩ := ihy _ _ _ h1
   exact ⟨e2, tm2, σ2, h3, fun S K' => by simp only [exec]; rw [h2]; exact h4 S K'⟩
  | exit id => exact ⟨_, _, _, h1, fun S K' => by simp only [exec]; rw [h2]⟩
  | ret => exact ⟨_, _, _, h1, fun S K' => by simp only [exec]; rw [h2]⟩
 | cond c x y ihx ihy =>
  intro tm σ K h
  simp only [exec] at h
  split at h
  case h_2 => simp at h
  rename_i hok
  split at h
  case h_2 => simp at h
  rename_i t ht
  split at h
  ·obtain ⟨e2, tm2, σ2, h3, h4⟩ := ihx _ _ _ h
   exact ⟨e2, tm2, σ2, h3, fun S K' => by simp only [exec, hok, ht]; exact h4 S K'⟩
  ·obtain ⟨e2, tm2, σ2, h3, h4⟩ := ihy _ _ _ h
   exact ⟨e2, tm2, σ2, h3, fun S K' => by simp only [exec, hok, ht]; exact h4 S K'⟩
 | block id c ih =>
  intro tm σ K h
  simp only [exec] at h
  obtain ⟨e, tm', σ', h1, h2⟩ := ih _ _ _ h
  cases e with
  | normal => exact ⟨_, _, _, h1, fun S K' => by simp only [exec]; rw [h2]⟩
  | exit id' =>
   simp only [] at h1
   split at h1
   ·rename_i hb; exact ⟨_, _, _, h1, fun S K' => by simp only [exec]; rw [h2]; simp only [hb]⟩
   ·rename_i hb; exact ⟨_, _, _, h1, fun S K' => by simp only [exec]; rw [h2]; simp only [hb]⟩
  | ret => exact ⟨_, _, _, h1, fun S K' => by simp only [exec]; rw [h2]⟩
 | loop c ih =>
  intro tm σ K h
  have key : ∀ (k : Nat) (tm : Env) (σ : LH), loopN P m ls k (exec P Φ m n N ls noL c) tm σ K = some r →
    ∃ e tm' σ', K e tm' σ' = some r ∧ ∀ (S : Type) (K' : LX → Env → LH → Option S), loopN P m ls k (exec P Φ m n N ls noL c) tm σ K' = K' e tm' σ' := by
   intro k
   induction k with
   | zero => intro tm σ h; simp [loopN] at h
   | succ k ihk =>
    intro tm σ h
    simp only [loopN] at h
    obtain ⟨e, tm', σ', h1, h2⟩ := ih _ _ _ h
    cases e with
    | normal =>
     obtain ⟨e2, tm2, σ2, h3, h4⟩ := ihk _ _ h1
     exact ⟨e2, tm2, σ2, h3, fun S K' => by simp only [loopN]; rw [h2]; exact h4 S K'⟩
    | exit id => exact ⟨_, _, _, h1, fun S K' => by simp only [loopN]; rw [h2]⟩
    | ret => exact ⟨_, _, _, h1, fun S K' => by simp only [loopN]; rw [h2]⟩
  simp only [exec, noL] at h
  obtain ⟨e2, tm2, σ2, h3, h4⟩ := key _ _ _ h
  exact ⟨e2, tm2, σ2, h3, fun S K' => by simp only [exec, noL]; exact h4 S K'⟩
 | exit id => intro tm σ K h; exact ⟨_, _, _, h, fun _ _ => rfl⟩
 | ret => intro tm σ K h; exact ⟨_, _, _, h, fun _ _ => rfl⟩
 | rangeFunc f ps x y => intro tm σ K h; simp [exec] at h
 | scope c => intro tm σ K h; simp [exec] at h
 | goto l => intro tm σ K h; simp [exec] at h
 | refuse w => intro tm σ K h; simp [exec] at h
theorem runK_val {R : Type} {P : Program} {Φ : Tab} {W : World} (hΦ : Φ.Ok P W) {N : Nat} {ls : Option (List Nat)} {fn : Func} {args : List Value} {m : Nat} {σ : LH} {K : Value → LH → Option R} {r : R} (h : runK P Φ N ls noL fn args m σ K = some r) :
  ∃ v σ', K v σ' = some r ∧ ∀ (S : Type) (K' : Value → LH → Option S), runK P Φ N ls noL fn args m σ K' = K' v σ' := by
 unfold runK at h
 split at h
 case h_2 => simp at h
 rename_i c hc
 split at h
 case h_2 => simp at h
 rename_i hle
 obtain ⟨e, tm', σ', h1, h2⟩ := exec_val hΦ _ _ _ _ h
 have fin : ∀ (he : ∀ id, e ≠ .exit id), ∃ vs v, resL P fn.results.toList tm' σ' = some vs ∧ resV vs = some v ∧ K v σ' = some r := by
  intro he
  cases e with
  | exit id => exact absurd rfl (he id)
  | _ =>
   simp only [] at h1
   split at h1
   case h_2 => simp at h1
   rename_i vs hvs
   split at h1
   case h_2 => simp at h1
   rename_i v hv
   exact ⟨vs, v, hvs, hv, h1⟩
 cases e with
 | exit id => simp at h1
 | normal =>
  obtain ⟨vs, v, hvs, hv, hk⟩ := fin (fun _ => by simp)
  exact ⟨v, σ', hk, fun S K' => by unfold runK; simp only [hc, hle]; rw [h2]; simp only [hvs, hv]⟩
 | ret =>
  obtain ⟨vs, v, hvs, hv, hk⟩ := fin (fun _ => by simp)
  exact ⟨v, σ', hk, fun S K' => by unfold runK; simp only [hc, hle]; rw [h2]; simp only [hvs, hv]⟩
def GivesVU (P : Program) (T : Prem) (g : FuncId) (args : List Value) (v : Value) : Prop := ∀ σ, GivesU P T g args σ v σ
abbrev GivesV (P : Program) (g : FuncId) (args : List Value) (v : Value) : Prop := GivesVU P Prem.none g args v
end Go.RX
