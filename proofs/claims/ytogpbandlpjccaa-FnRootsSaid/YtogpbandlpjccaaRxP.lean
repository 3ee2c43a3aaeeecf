/- Regions whose order is open, with calls that leave new memory and one new variable that is written once. -/
import Derived.Test.YtogpbandlpjccaaRxK
set_option linter.unusedSimpArgs false
set_option linter.unusedVariables false
namespace Go.RX
open Go.RowKit
def daOf (ops : Array Oper) : Nat := match (ops.toList.take (preN ops)).find? fun o => isAlo o.op with
 | some o => o.dst.getD 0
 | none => 0
def isT (x : Operand) (t : Nat) : Bool := match x with | .tmp u => Nat.beq u t | _ => false
def isD (d : Option Nat) (t : Nat) : Bool := match d with | some u => Nat.beq u t | none => false
def qeA {R : Type} (P : Program) (Φ : Tab) (m n : Nat) (ops : Array Oper) (da : Nat) : List Oper → Nat → Option Nat → Env → LH → LH → Option (Blk × Bool) → (Env → LH → Option R) → Option R
 | [], _, _, tm, _, E, p, K => match p with
  | some (b, _) => (match (b.1.toList.all fun x => plain x && x.oneCell') && isN b.1 with
   | true => K tm (E ++ [b])
   | false => none)
  | none => none
 | o :: rest, i, c, tm, σ, E, p, K => match spK o.op with
  | .al t => (match o.guard with
   | none => (match p with
    | none => (match zblk P t with
     | some b => (match isD o.dst da with
      | true => (match put n o.dst (.pointer (some ⟨E.length, 0, none⟩)) tm with
       | some tm' => qeA P Φ m n ops da rest (i + 1) c tm' σ E (some (b, false)) K
       | none => none)
      | false => none)
     | none => none)
    | some _ => none)
   | some _ => none)
  | .st t x y => (match o.guard with
   | none => (match p with
    | some (b, false) => (match (((qeJ ops c o && Nat.beq x da) && !(isT y da)) && (has tm x && evOk tm y)) && plain (ev tm y) with
     | true => (match newPtr E.length (look tm x) with
      | some (0, off) => (match qhE P m t (.pointer (some ⟨E.length, off, none⟩)) (ev tm y) (E ++ [b]) with
       | some σ2 => (match σ2[E.length]? with
        | some b' => (match put n o.dst undef tm with
         | some tm' => qeA P Φ m n ops da rest (i + 1) c tm' σ E (some (b', true)) K
         | none => none)
        | none => none)
       | none => none)
      | _ => none)
     | false => none)
    | _ => none)
   | some _ => none)
  | .bad => none
  | .no => match (reads ops o).contains da with
   | true => none
   | false => (match isCh o.op with
    | true => (match qeJ ops c o with
     | true => (match p with
      | none => qgF o ops tm
       (fun tm => step P Φ m o tm E fun v σ' b => match b && Nat.ble E.length σ'.length with
        | true => (match put n o.dst v tm with | some tm' => qeA P Φ m n ops da rest (i + 1) (some i) tm' σ σ' p K | none => none)
        | false => none)
       (fun tm => match put n o.dst undef tm with | some tm' => qeA P Φ m n ops da rest (i + 1) (some i) tm' σ E p K | none => none)
      | some _ => none)
     | false => none)
    | false => qgF o ops tm
     (fun tm => match quiet Φ tm o with
      | true => step P Φ m o tm (pickB (qeJ ops c o) E σ) fun v _ _ => (match put n o.dst v tm with | some tm' => qeA P Φ m n ops da rest (i + 1) c tm' σ E p K | none => none)
      | false => none)
     (fun tm => match put n o.dst undef tm with | some tm' => qeA P Φ m n ops da rest (i + 1) c tm' σ E p K | none => none))
structure DidD (P : Program) (Φ : Tab) (m n : Nat) (ops : Array Oper) (da : Nat) (σ : LH) (i : Nat) (o : Oper) (tm tm' : Env) (v : Value) (c c' : Option Nat) (E E' : LH) (p p' : Option (Blk × Bool)) : Prop where
 put : ∃ tm1, qeZ tm1 tm ∧ put n o.dst v tm1 = some tm'
 no : spK o.op = .no → da ∉ reads ops o ∧ DidC P Φ m n ops o tm tm' v (pickB (qeJ ops c o) E σ) E E' ∧ c' = (if isCh o.op = true then some i else c) ∧ (isCh o.op = true → qeJ ops c o = true ∧ p = none) ∧ p' = p
 al : ∀ t, spK o.op = .al t → o.guard = none ∧ p = none ∧ (∃ b, zblk P t = some b ∧ p' = some (b, false)) ∧ o.dst = some da ∧ v = .pointer (some ⟨E.length, 0, none⟩) ∧ E' = E ∧ c' = c
 st : ∀ t x y, spK o.op = .st t x y → o.guard = none ∧ x = da ∧ isT y da = false ∧ v = undef ∧ E' = E ∧ c' = c ∧ qeJ ops c o = true ∧ has tm da = true ∧ evOk tm y = true ∧ plain (ev tm y) = true ∧
  ∃ b b' off, p = some (b, false) ∧ p' = some (b', true) ∧ look tm da = .pointer (some ⟨E.length, off, none⟩) ∧ qhE P m t (.pointer (some ⟨E.length, off, none⟩)) (ev tm y) (E ++ [b]) = some (E ++ [b'])
 bad : spK o.op ≠ .bad
theorem isCh_spK {op : Op} (h : isCh op = true) : spK op = .no := by
 cases op <;> simp_all [isCh, spK]
theorem evDrawD_trace {R : Type} {P : Program} {Φ : Tab} {W : World} (hΦ : Φ.Ok P W) {m n da : Nat} {ops : Array Oper} {σ : LH} {K : Env → LH → Option R} {r : R} :
  ∀ (l : List Oper) (i0 : Nat) (c : Option Nat) (tm : Env) (E : LH) (p : Option (Blk × Bool)), qeA P Φ m n ops da l i0 c tm σ E p K = some r →
   ∃ (tms : Nat → Env) (vs : Nat → Value) (Es : Nat → LH) (cs : Nat → Option Nat) (ps : Nat → Option (Blk × Bool)), tms 0 = tm ∧ Es 0 = E ∧ cs 0 = c ∧ ps 0 = p ∧
    (∀ i o, l[i]? = some o → DidD P Φ m n ops da σ (i0 + i) o (tms i) (tms (i + 1)) (vs i) (cs i) (cs (i + 1)) (Es i) (Es (i + 1)) (ps i) (ps (i + 1))) ∧
    ∃ b f, ps l.length = some (b, f) ∧ ((b.1.toList.all fun x => plain x && x.oneCell') && isN b.1) = true ∧ K (tms l.length) (Es l.length ++ [b]) = some r := by
 intro l
 induction l with
 | nil =>
  intro i0 c tm E p h
  simp only [qeA] at h
  split at h
  case h_2 => simp at h
  rename_i b f
  split at h
  case h_2 => simp at h
  rename_i hb
  exact ⟨fun _ => tm, fun _ => undef, fun _ => E, fun _ => c, fun _ => some (b, f), rfl, rfl, rfl, rfl, fun i o hi => by simp at hi, b, f, rfl, hb, h⟩
 | cons o rest ih =>
  intro i0 c tm E p h
  rw [qeA.eq_def] at h
  simp only [] at h
  have key : ∃ v tm' c' E' p', DidD P Φ m n ops da σ i0 o tm tm' v c c' E E' p p' ∧ qeA P Φ m n ops da rest (i0 + 1) c' tm' σ E' p' K = some r := by
   cases hk : spK o.op with
   | bad => simp [hk] at h
   | al t =>
    simp only [hk] at h
    cases hg : o.guard with
    | some g => simp [hg] at h
    | none =>
    simp only [hg] at h
    split at h
    case h_2 => simp at h
    split at h
    case h_2 => simp at h
    rename_i b hb
    split at h
    case h_2 => simp at h
    rename_i hd
    split at h
    case h_2 => simp at h
    rename_i tm' htm
    have hd' : o.dst = some da := by
     unfold isD at hd
     split at hd
     ·rename_i u hu; rw [hu, Nat.eq_of_beq_eq_true hd]
     ·cases hd
    exact ⟨_, tm', c, E, some (b, false), ⟨⟨tm, qeZ.refl tm, htm⟩, fun hh => (by rw [hk] at hh; cases hh), fun t' ht' => (by rw [hk] at ht'; cases ht'; exact ⟨hg, rfl, ⟨b, hb, rfl⟩, hd', rfl, rfl, rfl⟩), fun t' x y hh => (by rw [hk] at hh; cases hh), fun hh => (by rw [hk] at hh; cases hh)⟩, h⟩
   | st t x y =>
    simp only [hk] at h
    cases hg : o.guard with
    | some g => simp [hg] at h
    | none =>
    simp only [hg] at h
    split at h
    case h_2 => simp at h
    rename_i b
    split at h
    case h_2 => simp at h
    rename_i hc
    simp only [Bool.and_eq_true, Bool.not_eq_true'] at hc
    obtain ⟨⟨⟨⟨c1, c2⟩, c3⟩, c4, c5⟩, c6⟩ := hc
    have c2 := Nat.eq_of_beq_eq_true c2
    subst c2
    split at h
    case h_2 => simp at h
    rename_i off hnp
    split at h
    case h_2 => simp at h
    rename_i σ2 hst
    split at h
    case h_2 => simp at h
    rename_i b' hb'
    split at h
    case h_2 => simp at h
    rename_i tm' htm
    have hlk := newPtr_eq hnp
    rw [Nat.add_zero] at hlk
    obtain ⟨blk, blk1, e1, e2, _⟩ := storeL_eqv hst
    have hσ2 : σ2 = E ++ [b'] := by
     rw [e2] at hb' ⊢
     rw [List.getElem?_set_self (by simp)] at hb'
     simp only [Option.some.injEq] at hb'
     subst hb'
     rw [List.set_append_right _ _ (Nat.le_refl _)]
     simp
    rw [hσ2] at hst
    exact ⟨undef, tm', c, E, some (b', true), ⟨⟨tm, qeZ.refl tm, htm⟩, fun hh => (by rw [hk] at hh; cases hh), fun t' ht' => (by rw [hk] at ht'; cases ht'), fun t' x' y' hh => (by rw [hk] at hh; cases hh; exact ⟨hg, rfl, c3, rfl, rfl, rfl, c1, c4, c5, c6, b, b', off, rfl, rfl, hlk, hst⟩), fun hh => (by rw [hk] at hh; cases hh)⟩, h⟩
   | no =>
    simp only [hk] at h
    split at h
    case h_1 => simp at h
    rename_i hrd
    have hrd' : da ∉ reads ops o := fun hm => by
     have : (reads ops o).contains da = true := by simpa using hm
     rw [hrd] at this
     cases this
    have mkD : ∀ v tm' c' E' p', DidC P Φ m n ops o tm tm' v (pickB (qeJ ops c o) E σ) E E' → c' = (if isCh o.op = true then some i0 else c) → (isCh o.op = true → qeJ ops c o = true ∧ p = none) → p' = p → DidD P Φ m n ops da σ i0 o tm tm' v c c' E E' p p' :=
     fun v tm' c' E' p' h1 h2 h3 h4 => ⟨h1.put, fun _ => ⟨hrd', h1, h2, h3, h4⟩, fun t' ht' => (by rw [hk] at ht'; cases ht'), fun t' x y hh => (by rw [hk] at hh; cases hh), fun hh => (by rw [hk] at hh; cases hh)⟩
    cases hc : isCh o.op with
    | true =>
     simp only [hc] at h
     split at h
     case h_2 => simp at h
     rename_i hbh
     split at h
     case h_2 => simp at h
     obtain ⟨tm1, halk, hgd, hyes, hno⟩ := qf1 h
     by_cases hw : qeD o ops tm = true
     ·have hy := hyes hw
      obtain ⟨v, σ', b, h1, h2⟩ := qeR hΦ hy
      split at h1
      case h_2 => simp at h1
      rename_i hl
      simp only [Bool.and_eq_true] at hl
      obtain ⟨rfl, hl⟩ := hl
      split at h1
      case h_2 => simp at h1
      rename_i tm' htm
      exact ⟨v, tm', some i0, σ', none, mkD _ _ _ _ _ ⟨⟨tm1, halk, htm⟩, hgd, fun hf => by simp [hw] at hf, fun _ _ => ⟨tm1, halk, Nat.le_of_ble_eq_true hl, h2⟩, fun hh => (by rw [hc] at hh; cases hh), fun hh => (by rw [hc] at hh; cases hh)⟩ (by simp [hc]) (fun _ => ⟨hbh, rfl⟩) rfl, h1⟩
     ·have hw' : qeD o ops tm = false := by simpa using hw
      have h' := hno hw'
      split at h'
      case h_2 => simp at h'
      rename_i tm' htm
      exact ⟨undef, tm', some i0, E, none, mkD _ _ _ _ _ ⟨⟨tm1, halk, htm⟩, hgd, fun _ => ⟨rfl, rfl⟩, fun _ hf => by simp [hw'] at hf, fun _ => rfl, fun hh => (by rw [hc] at hh; cases hh)⟩ (by simp [hc]) (fun _ => ⟨hbh, rfl⟩) rfl, h'⟩
    | false =>
     simp only [hc] at h
     obtain ⟨tm1, halk, hgd, hyes, hno⟩ := qf1 h
     by_cases hw : qeD o ops tm = true
     ·have hy := hyes hw
      split at hy
      case h_2 => simp at hy
      rename_i hq
      obtain ⟨v, σ', b, h1, h2⟩ := qeR hΦ hy
      obtain ⟨v', hv'⟩ := qiC hΦ hq hy
      have e1 := hv' [] (Value × LH × Bool) fun v σ' b => some (v, σ', b)
      rw [List.append_nil, h2] at e1
      simp only [Option.some.injEq, Prod.mk.injEq] at e1
      obtain ⟨rfl, _, _⟩ := e1
      split at h1
      case h_2 => simp at h1
      rename_i tm' htm
      exact ⟨v, tm', c, E, p, mkD _ _ _ _ _ ⟨⟨tm1, halk, htm⟩, hgd, fun hf => by simp [hw] at hf, fun hh => (by rw [hc] at hh; cases hh), fun _ => rfl, fun _ _ => ⟨tm1, halk, hv'⟩⟩ (by simp [hc]) (fun hh => (by rw [hc] at hh; cases hh)) rfl, h1⟩
     ·have hw' : qeD o ops tm = false := by simpa using hw
      have h' := hno hw'
      split at h'
      case h_2 => simp at h'
      rename_i tm' htm
      exact ⟨undef, tm', c, E, p, mkD _ _ _ _ _ ⟨⟨tm1, halk, htm⟩, hgd, fun _ => ⟨rfl, rfl⟩, fun hh => (by rw [hc] at hh; cases hh), fun _ => rfl, fun _ hf => by simp [hw'] at hf⟩ (by simp [hc]) (fun hh => (by rw [hc] at hh; cases hh)) rfl, h'⟩
  obtain ⟨v, tm', c', E1, p1, hd, hr⟩ := key
  obtain ⟨tms, vs, Es, cs, ps, g0, g1, g2, g3, g4, b, f, g5, g6, g7⟩ := ih (i0 + 1) c' tm' E1 p1 hr
  refine ⟨fun i => match i with | 0 => tm | i + 1 => tms i, fun i => match i with | 0 => v | i + 1 => vs i, fun i => match i with | 0 => E | i + 1 => Es i, fun i => match i with | 0 => c | i + 1 => cs i, fun i => match i with | 0 => p | i + 1 => ps i, rfl, rfl, rfl, rfl, fun i oi hi => ?_, b, f, g5, g6, g7⟩
  cases i with
  | zero =>
   simp only [List.getElem?_cons_zero, Option.some.injEq] at hi
   subst hi
   simp only [g0, g1, g2, g3]
   exact hd
  | succ i =>
   have := g4 i oi (by simpa using hi)
   rw [show i0 + (i + 1) = i0 + 1 + i by omega]
   exact this
theorem DidD.has {P : Program} {Φ : Tab} {m n da : Nat} {ops : Array Oper} {σ : LH} {i : Nat} {o : Oper} {tm tm' : Env} {v : Value} {c c' : Option Nat} {E E' : LH} {p p' : Option (Blk × Bool)} (h : DidD P Φ m n ops da σ i o tm tm' v c c' E E' p p') {t : Nat} (ht : has tm' t = true) : o.dst = some t ∨ has tm t = true := by
 obtain ⟨tm1, hal, hp⟩ := h.put
 rcases has_put hp ht with h1 | h1
 ·exact Or.inl h1
 ·exact Or.inr (by rw [← hal.2.2 t]; exact h1)
theorem DidD.look {P : Program} {Φ : Tab} {m n da : Nat} {ops : Array Oper} {σ : LH} {i : Nat} {o : Oper} {tm tm' : Env} {v : Value} {c c' : Option Nat} {E E' : LH} {p p' : Option (Blk × Bool)} (h : DidD P Φ m n ops da σ i o tm tm' v c c' E E' p p') (t : Nat) :
  (o.dst = some t → look tm' t = v) ∧ (o.dst ≠ some t → look tm' t = look tm t) := by
 obtain ⟨tm1, hal, hp⟩ := h.put
 exact ⟨(qgK hp t).1, fun hne => by rw [(qgK hp t).2 hne, hal.1 t]⟩
theorem Hp.cut {σ0 σ : LH} {W w : World} {β0 β : Nat → Pl} {b : Blk} (h : Hp σ0 W β0 β (σ ++ [b]) w) (hm : σ0.length ≤ σ.length) (hsc : ∀ (i : Nat) (c : Array Value) (t : TypeId), σ[i]? = some (c, t) → isN c = true → ∀ v ∈ c.toList, inn σ.length v = true) : Hp σ0 W β0 β σ w := by
 have old : ∀ (i : Nat) (x : Blk), σ[i]? = some x → (σ ++ [b])[i]? = some x := fun i x hi => by rw [List.getElem?_append_left (List.getElem?_eq_some_iff.1 hi).1]; exact hi
 have hl : ∀ i, i < σ.length → live σ i → live (σ ++ [b]) i := fun i hi hl t he => hl t (by rw [List.getElem?_append_left hi] at he; exact he)
 exact ⟨⟨fun i c t hi hn => h.lies.blk i c t (old i _ hi) hn, fun i c t hi hn v hv => ⟨hsc i c t hi hn v hv, (h.lies.sc i c t (old i _ hi) hn v hv).2⟩, fun i rows g z t hi => h.lies.lst i rows g z t (old i _ hi)⟩, hm, fun i hi => by
  have := h.pre i hi
  rwa [List.getElem?_append_left (by omega)] at this, h.ext, h.low, fun i h1 h2 => h.own i h1 (by simp; omega), fun i j h1 h2 h3 l1 l2 => h.inj i j h1 h2 (by simp; omega) (hl i (by omega) l1) (hl j h3 l2), fun i hi => h.up i (by simp; omega), h.below⟩
theorem zblk_plain {P : Program} {t : TypeId} {b : Blk} (h : zblk P t = some b) : ∀ v ∈ b.1.toList, plain v = true ∧ v.oneCell' = true := by
 unfold zblk at h
 split at h
 case h_2 => simp at h
 rename_i z hz
 split at h
 case h_2 => simp at h
 rename_i hc
 simp only [Bool.and_eq_true, List.all_eq_true] at hc
 simp only [Option.some.injEq] at h
 subst h
 intro v hv
 exact ⟨hc.2 v hv, ((cells_rl (β := fun _ => ⟨none, none, 0, 0, 0⟩) (n := 0) hc.1.1 (qc0 hc.1.2)).2 v hv).2⟩
theorem isN_of_one {c : Array Value} (h : ∀ v ∈ c.toList, v.oneCell' = true) : isN c = true := by
 unfold isN
 split
 ·rename_i vs r
  have := h (.tuple vs) (by simp)
  simp [Value.oneCell'] at this
 ·rfl
theorem zblk_isN {P : Program} {t : TypeId} {b : Blk} (h : zblk P t = some b) : isN b.1 = true := isN_of_one fun v hv => (zblk_plain h v hv).2
theorem spK_al {op : Op} {t : TypeId} (h : spK op = .al t) : op = .alloc t := by
 cases op with
 | alloc t' => simp only [spK, SpK.al.injEq] at h; rw [h]
 | store t' x y => cases x <;> simp [spK] at h
 | _ => simp [spK] at h
theorem spK_st {op : Op} {t : TypeId} {x : Nat} {y : Operand} (h : spK op = .st t x y) : op = .store t (.tmp x) y := by
 cases op with
 | alloc t' => simp [spK] at h
 | store t' x' y' => cases x' with
  | tmp x'' => simp only [spK, SpK.st.injEq] at h; obtain ⟨rfl, rfl, rfl⟩ := h; rfl
  | _ => simp [spK] at h
 | _ => simp [spK] at h
set_option maxHeartbeats 4000000 in
theorem evDrawD_run {R : Type} {P : Program} (hm : P.follows .mixedOrders = true) {Φ : Tab} {W : World} (hΦ : Φ.Ok P W) {σ0 σ : LH} {w : World} {β0 β βb : Nat → Pl} {n nb id : Nat} {ops : Array Oper} {tm : Env} {a : Act} {K : Env → LH → Option R} {r : R} {Q : Exit → Act → World → Prop}
  (hd : drawOk ops = true) (hs : St σ0 W β0 n nb βb β tm σ a w) (h : qeA P Φ σ0.length n ops (daOf ops) (ops.toList.take (preN ops)) 0 none tm σ σ none (fun tm σ => qgQ P Φ σ0.length n ops (ops.toList.drop (preN ops)) tm σ K) = some r)
  (hK : ∀ tm' σ' β' a' w', St σ0 W β0 n nb βb β' tm' σ' a' w' → K tm' σ' = some r → Q .normal a' w') : (Code.region id ops true).wp P Q a w := by
 obtain ⟨hpn, fe, fr, fo, ft⟩ := qgM hd
 obtain ⟨tms, vs, Es, cs, ps, h0, hE0, hc0, hp0, htr, bF, fF, hpF, hbF, hKE⟩ := evDrawD_trace hΦ (ops.toList.take (preN ops)) 0 none tm σ none h
 generalize daOf ops = da at *
 generalize hpdef : preN ops = N at *
 have hlen : (ops.toList.take N).length = N := by simp; omega
 rw [hlen] at hKE hpF
 simp only [Bool.and_eq_true, List.all_eq_true] at hbF
 have htr' : ∀ (i : Nat) (o : Oper), i < N → ops[i]? = some o → DidD P Φ σ0.length n ops da σ i o (tms i) (tms (i + 1)) (vs i) (cs i) (cs (i + 1)) (Es i) (Es (i + 1)) (ps i) (ps (i + 1)) := fun i o hiN hi => by
  have := htr i o (by rw [List.getElem?_take_of_lt hiN, Array.getElem?_toList]; exact hi)
  rwa [Nat.zero_add] at this
 have htrA : ∀ (i : Nat) (o : Oper), i < N → ops[i]? = some o → cs (i + 1) = (if isCh o.op = true then some i else cs i) ∧ (isCh o.op = true → qeJ ops (cs i) o = true) ∧ (isCh o.op = false → Es (i + 1) = Es i) := fun i o hiN hi => by
  have hD := htr' i o hiN hi
  cases hk : spK o.op with
  | no => exact ⟨(hD.no hk).2.2.1, fun hh => ((hD.no hk).2.2.2.1 hh).1, fun hh => (hD.no hk).2.1.lo hh⟩
  | al t =>
   have hc : isCh o.op = false := by
    cases hh : isCh o.op with
    | false => rfl
    | true => rw [isCh_spK hh] at hk; cases hk
   obtain ⟨_, _, _, _, _, e1, e2⟩ := hD.al t hk
   exact ⟨by rw [hc]; simpa using e2, fun hh => (by rw [hc] at hh; cases hh), fun _ => e1⟩
  | st t x y =>
   have hc : isCh o.op = false := by
    cases hh : isCh o.op with
    | false => rfl
    | true => rw [isCh_spK hh] at hk; cases hk
   obtain ⟨_, _, _, _, e1, e2, _⟩ := hD.st t x y hk
   exact ⟨by rw [hc]; simpa using e2, fun hh => (by rw [hc] at hh; cases hh), fun _ => e1⟩
  | bad => exact absurd hk hD.bad
 -- memory stays between two calls
 have memStay : ∀ (i d : Nat), i + d ≤ N → (∀ (k : Nat) (o : Oper), i ≤ k → k < i + d → ops[k]? = some o → isCh o.op = false) → Es (i + d) = Es i := by
  intro i d
  induction d with
  | zero => intro _ _; rfl
  | succ d ih =>
   intro hle hno
   have ho : ops[i + d]? = some ops[i + d] := Array.getElem?_eq_getElem (by omega)
   rw [← Nat.add_assoc, (htrA _ _ (by omega) ho).2.2 (hno _ _ (by omega) (by omega) ho)]
   exact ih (by omega) fun k o h1 h2 h3 => hno k o h1 (by omega) h3
 -- the last call before i
 have csAt : ∀ (i : Nat), i ≤ N → (cs i = none ∧ ∀ (k : Nat) (o : Oper), k < i → ops[k]? = some o → isCh o.op = false) ∨ (∃ (c : Nat) (o : Oper), cs i = some c ∧ c < i ∧ ops[c]? = some o ∧ isCh o.op = true ∧ ∀ (k : Nat) (p : Oper), c < k → k < i → ops[k]? = some p → isCh p.op = false) := by
  intro i
  induction i with
  | zero => intro _; exact Or.inl ⟨hc0, fun k o hk => by omega⟩
  | succ i ih =>
   intro hle
   have ho : ops[i]? = some ops[i] := Array.getElem?_eq_getElem (by omega)
   have hcs := (htrA i _ (by omega) ho).1
   by_cases hch : isCh (ops[i]).op = true
   ·rw [if_pos hch] at hcs
    exact Or.inr ⟨i, _, hcs, by omega, ho, hch, fun k p h1 h2 => by omega⟩
   ·have hch' : isCh (ops[i]).op = false := by simpa using hch
    rw [if_neg hch] at hcs
    have ext : ∀ (k : Nat) (o : Oper), k = i → ops[k]? = some o → isCh o.op = false := by
     intro k o hk hko
     subst hk
     rw [ho] at hko
     simp only [Option.some.injEq] at hko
     subst hko
     exact hch'
    rcases ih (by omega) with ⟨h1, h2⟩ | ⟨c, o, h1, h2, h3, h4, h5⟩
    ·refine Or.inl ⟨by rw [hcs]; exact h1, fun k o hk hko => ?_⟩
     by_cases hki : k = i
     ·exact ext k o hki hko
     ·exact h2 k o (by omega) hko
    ·refine Or.inr ⟨c, o, by rw [hcs]; exact h1, by omega, h3, h4, fun k p hk1 hk2 hkp => ?_⟩
     by_cases hki : k = i
     ·exact ext k p hki hkp
     ·exact h5 k p hk1 (by omega) hkp
 -- what no operation from i on to k writes stays
 have stay : ∀ (t i d : Nat), i + d ≤ N → (∀ (k : Nat) (o : Oper), i ≤ k → k < i + d → ops[k]? = some o → o.dst ≠ some t) → look (tms (i + d)) t = look (tms i) t := by
  intro t i d
  induction d with
  | zero => intro _ _; rfl
  | succ d ih =>
   intro hle hno
   have hltN : i + d < N := by omega
   have hlt : i + d < ops.size := by omega
   have ho : ops[i + d]? = some ops[i + d] := Array.getElem?_eq_getElem hlt
   rw [← Nat.add_assoc, ((htr' _ _ hltN ho).look t).2 (hno _ _ (by omega) (by omega) ho)]
   exact ih (by omega) fun k o h1 h2 h3 => hno k o h1 (by omega) h3
 have stayE : ∀ (t i : Nat), i ≤ N → (∀ (k : Nat) (o : Oper), i ≤ k → k < N → ops[k]? = some o → o.dst ≠ some t) → look (tms N) t = look (tms i) t := by
  intro t i hi hno
  have := stay t i (N - i) (by omega) fun k o h1 h2 h3 => hno k o h1 (by omega) h3
  rwa [show i + (N - i) = N by omega] at this
 have valE : ∀ (i : Nat) (o : Oper) (t : Nat), i < N → ops[i]? = some o → o.dst = some t → look (tms N) t = vs i := by
  intro i o t hiN hi ht
  rw [stayE t (i + 1) (by omega) fun k p h1 hk h2 h3 => by have := fo k i p o hk hiN h2 hi t h3 ht; omega]
  exact ((htr' i o hiN hi).look t).1 ht
 have readE : ∀ (j : Nat) (o : Oper) (t : Nat), j < N → ops[j]? = some o → t ∈ reads ops o → look (tms j) t = look (tms N) t := by
  intro j o t hjN hj ht
  exact (stayE t j (by omega) fun k p h1 hk h2 h3 => by have := (fr k j p o hk hjN h2 hj t h3 ht).1; omega).symm
 have freeE : ∀ (t : Nat), (∀ (k : Nat) (o : Oper), k < N → ops[k]? = some o → o.dst ≠ some t) → look (tms N) t = look tm t := by
  intro t hno
  rw [stayE t 0 (by omega) fun k o _ hk h2 => hno k o hk h2, h0]
 have hasE : ∀ (k : Nat), k ≤ N → ∀ t, has (tms k) t = true → (∃ (i : Nat) (o : Oper), i < N ∧ ops[i]? = some o ∧ o.dst = some t) ∨ has tm t = true := by
  intro k
  induction k with
  | zero => intro _ t ht; rw [h0] at ht; exact Or.inr ht
  | succ k ih =>
   intro hk t ht
   have ho : ops[k]? = some ops[k] := Array.getElem?_eq_getElem (by omega)
   rcases (htr' k _ (by omega) ho).has ht with h1 | h1
   ·exact Or.inl ⟨k, _, by omega, ho, h1⟩
   ·exact ih (by omega) t h1
 -- the new variable: its place in the text, its blocks
 have psUp : ∀ (i : Nat), i < N → (∀ b f, ps i = some (b, f) → ∃ b' f', ps (i + 1) = some (b', f') ∧ (f = true → f' = true ∧ b' = b) ∧ (f' = f → b' = b)) := by
  intro i hiN b f hp
  have ho : ops[i]? = some ops[i] := Array.getElem?_eq_getElem (by omega)
  have hD := htr' i _ hiN ho
  cases hk : spK (ops[i]).op with
  | no => exact ⟨b, f, by rw [(hD.no hk).2.2.2.2]; exact hp, fun hf => ⟨hf, rfl⟩, fun _ => rfl⟩
  | al t => rw [(hD.al t hk).2.1] at hp; cases hp
  | st t x y =>
   obtain ⟨_, _, _, _, _, _, _, _, _, _, b1, b2, off, e1, e2, _⟩ := hD.st t x y hk
   rw [e1] at hp
   simp only [Option.some.injEq, Prod.mk.injEq] at hp
   obtain ⟨rfl, rfl⟩ := hp
   exact ⟨b2, true, e2, (fun hf => by cases hf), (fun hf => by cases hf)⟩
  | bad => exact absurd hk hD.bad
 have psUps : ∀ (d i : Nat), i + d ≤ N → ∀ b f, ps i = some (b, f) → ∃ b' f', ps (i + d) = some (b', f') ∧ (f = true → f' = true ∧ b' = b) ∧ (f' = f → b' = b) := by
  intro d
  induction d with
  | zero => intro i _ b f hp; exact ⟨b, f, hp, fun hf => ⟨hf, rfl⟩, fun _ => rfl⟩
  | succ d ih =>
   intro i hle b f hp
   obtain ⟨b1, f1, e1, e2, e3⟩ := ih i (by omega) b f hp
   obtain ⟨b2, f2, e4, e5, e6⟩ := psUp (i + d) (by omega) b1 f1 e1
   refine ⟨b2, f2, by rw [← Nat.add_assoc]; exact e4, fun hf => ?_, fun hf => ?_⟩
   ·obtain ⟨rfl, rfl⟩ := e2 hf
    exact e5 rfl
   ·subst hf
    cases f1 with
    | true =>
     cases f2 with
     | true => obtain ⟨-, rfl⟩ := e2 rfl; exact (e5 rfl).2
     | false => have := (e5 rfl).1; cases this
    | false =>
     cases f2 with
     | true => have := (e2 rfl).1; cases this
     | false => rw [e6 rfl, e3 rfl]
 have psNo : ∀ (i j : Nat), i ≤ j → j ≤ N → ps j = none → ps i = none := by
  intro i j hij hjN hp
  cases hpi : ps i with
  | none => rfl
  | some q =>
   obtain ⟨b, f⟩ := q
   obtain ⟨b', f', e1, _⟩ := psUps (j - i) i (by omega) b f hpi
   rw [show i + (j - i) = j by omega, hp] at e1
   cases e1
 have isAl : Nat → Prop := fun i => ∃ (o : Oper) (t : TypeId), ops[i]? = some o ∧ spK o.op = .al t
 obtain ⟨ia, oa, ta, b0, hiaN, hoa, hka, hza, hpa, hpa0⟩ : ∃ (ia : Nat) (oa : Oper) (ta : TypeId) (b0 : Blk), ia < N ∧ ops[ia]? = some oa ∧ spK oa.op = .al ta ∧ zblk P ta = some b0 ∧ ps (ia + 1) = some (b0, false) ∧ ps ia = none := by
  have : ∀ (d : Nat), d ≤ N → (∃ q, ps d = some q) → ∃ (ia : Nat) (oa : Oper) (ta : TypeId) (b0 : Blk), ia < N ∧ ops[ia]? = some oa ∧ spK oa.op = .al ta ∧ zblk P ta = some b0 ∧ ps (ia + 1) = some (b0, false) ∧ ps ia = none := by
   intro d
   induction d with
   | zero => intro _ ⟨q, hq⟩; rw [hp0] at hq; cases hq
   | succ d ih =>
    intro hd ⟨q, hq⟩
    have ho : ops[d]? = some ops[d] := Array.getElem?_eq_getElem (by omega)
    have hD := htr' d _ (by omega) ho
    cases hk : spK (ops[d]).op with
    | no => exact ih (by omega) ⟨q, by rw [← (hD.no hk).2.2.2.2]; exact hq⟩
    | al t =>
     obtain ⟨_, e1, ⟨b, e2, e3⟩, _⟩ := hD.al t hk
     exact ⟨d, _, t, b, by omega, ho, hk, e2, e3, e1⟩
    | st t x y =>
     obtain ⟨_, _, _, _, _, _, _, _, _, _, b1, b2, off, e1, e2, _⟩ := hD.st t x y hk
     exact ih (by omega) ⟨_, e1⟩
    | bad => exact absurd hk hD.bad
  exact this N (Nat.le_refl _) ⟨_, hpF⟩
 obtain ⟨hga, -, -, hda, hva, hEa, -⟩ := (htr' ia oa hiaN hoa).al ta hka
 have alOnly : ∀ (i : Nat) (o : Oper) (t : TypeId), i < N → ops[i]? = some o → spK o.op = .al t → i = ia := by
  intro i o t hiN hi hk
  obtain ⟨_, e1, ⟨b, _, e3⟩, _⟩ := (htr' i o hiN hi).al t hk
  rcases Nat.lt_trichotomy i ia with hlt | heq | hgt
  ·have := psNo (i + 1) ia (by omega) (by omega) hpa0
   rw [this] at e3; cases e3
  ·exact heq
  ·have := psNo (ia + 1) i (by omega) (by omega) e1
   rw [this] at hpa; cases hpa
 have chBefore : ∀ (i : Nat) (o : Oper), i < N → ops[i]? = some o → isCh o.op = true → i < ia := by
  intro i o hiN hi hc
  have e1 := (((htr' i o hiN hi).no (isCh_spK hc)).2.2.2.1 hc).2
  apply Nat.lt_of_not_le
  intro hle
  by_cases he : i = ia
  ·subst he
   rw [hoa] at hi
   simp only [Option.some.injEq] at hi
   subst hi
   rw [isCh_spK hc] at hka
   cases hka
  ·have := psNo (ia + 1) i (by omega) (by omega) e1
   rw [this] at hpa; cases hpa
 have EsF : ∀ (i : Nat), ia ≤ i → i ≤ N → Es i = Es N := by
  intro i h1 h2
  have := memStay i (N - i) (by omega) fun k o h3 h4 h5 => by
   cases hc : isCh o.op with
   | false => rfl
   | true => have := chBefore k o (by omega) h5 hc; omega
  rwa [show i + (N - i) = N by omega, eq_comm] at this
 have stFacts : ∀ (i : Nat) (o : Oper) t x y, i < N → ops[i]? = some o → spK o.op = .st t x y → ia < i ∧ ps i = some (b0, false) ∧ ps (i + 1) = some (bF, true) ∧ fF = true := by
  intro i o t x y hiN hi hk
  obtain ⟨_, _, _, _, _, _, _, _, _, _, b1, b2, off, e1, e2, _⟩ := (htr' i o hiN hi).st t x y hk
  have hlt : ia < i := by
   apply Nat.lt_of_not_le
   intro hle
   have := psNo i ia hle (by omega) hpa0
   rw [this] at e1; cases e1
  obtain ⟨b', f', e3, _, e4⟩ := psUps (i - (ia + 1)) (ia + 1) (by omega) b0 false hpa
  rw [show ia + 1 + (i - (ia + 1)) = i by omega, e1] at e3
  simp only [Option.some.injEq, Prod.mk.injEq] at e3
  obtain ⟨rfl, rfl⟩ := e3
  obtain ⟨b'', f'', e5, e6, _⟩ := psUps (N - (i + 1)) (i + 1) (by omega) b2 true e2
  rw [show i + 1 + (N - (i + 1)) = N by omega, hpF] at e5
  simp only [Option.some.injEq, Prod.mk.injEq] at e5
  obtain ⟨rfl, rfl⟩ := e5
  obtain ⟨e7, rfl⟩ := e6 rfl
  exact ⟨hlt, by rw [e1, e4 rfl], e2, e7⟩
 have stOnly : ∀ (i j : Nat) (o p : Oper) t x y t' x' y', i < N → j < N → ops[i]? = some o → ops[j]? = some p → spK o.op = .st t x y → spK p.op = .st t' x' y' → i = j := by
  intro i j o p t x y t' x' y' hiN hjN hi hj hk hk'
  obtain ⟨_, e1, e2, _⟩ := stFacts i o t x y hiN hi hk
  obtain ⟨_, e3, e4, _⟩ := stFacts j p t' x' y' hjN hj hk'
  rcases Nat.lt_trichotomy i j with hlt | heq | hgt
  ·obtain ⟨b', f', e5, e6, _⟩ := psUps (j - (i + 1)) (i + 1) (by omega) bF true e2
   rw [show i + 1 + (j - (i + 1)) = j by omega, e3] at e5
   simp only [Option.some.injEq, Prod.mk.injEq] at e5
   have := (e6 rfl).1
   rw [← e5.2] at this; cases this
  ·exact heq
  ·obtain ⟨b', f', e5, e6, _⟩ := psUps (i - (j + 1)) (j + 1) (by omega) bF true e4
   rw [show j + 1 + (i - (j + 1)) = i by omega, e1] at e5
   simp only [Option.some.injEq, Prod.mk.injEq] at e5
   have := (e6 rfl).1
   rw [← e5.2] at this; cases this
 have noSt : (∀ (i : Nat) (o : Oper) t x y, i < N → ops[i]? = some o → spK o.op ≠ .st t x y) → bF = b0 := by
  intro hno
  have : ∀ d, ia + 1 + d ≤ N → ps (ia + 1 + d) = some (b0, false) := by
   intro d
   induction d with
   | zero => intro _; exact hpa
   | succ d ih =>
    intro hd
    have ho : ops[ia + 1 + d]? = some ops[ia + 1 + d] := Array.getElem?_eq_getElem (by omega)
    have hD := htr' (ia + 1 + d) _ (by omega) ho
    cases hk : spK (ops[ia + 1 + d]).op with
    | no => rw [← Nat.add_assoc, (hD.no hk).2.2.2.2]; exact ih (by omega)
    | al t => have := alOnly _ _ t (by omega) ho hk; omega
    | st t x y => exact absurd hk (hno _ _ t x y (by omega) ho)
    | bad => exact absurd hk hD.bad
  have h1 := this (N - (ia + 1)) (by omega)
  rw [show ia + 1 + (N - (ia + 1)) = N by omega, hpF] at h1
  simp only [Option.some.injEq, Prod.mk.injEq] at h1
  exact h1.1
 have z0 : ∀ v ∈ b0.1.toList, plain v = true ∧ v.oneCell' = true := zblk_plain hza
 have zN : isN b0.1 = true := zblk_isN hza
 -- the new variable, as it lies once the operations of L have come up
 let Pend : Array Bool → Act → World → LH → (Nat → Pl) → Prop := fun L a w hp β' =>
  (L.getD ia false = false ∧ ∀ (i : Nat) (o : Oper) t x y, i < N → ops[i]? = some o → spK o.op = .st t x y → L.getD i false = false) ∨
  (L.getD ia false = true ∧ ∃ (kk : Nat) (b : Blk), a.tmps.getD da undef = .pointer (some ⟨kk, 0, none⟩) ∧ W.heap.size ≤ kk ∧ kk < w.heap.size ∧ w.heap[kk]? = some (.cells b.1 b.2 (0, 0)) ∧ (∀ i, i < hp.length → live hp i → (β' i).adr ≠ some kk) ∧
   ((b = b0 ∧ ∀ (i : Nat) (o : Oper) t x y, i < N → ops[i]? = some o → spK o.op = .st t x y → L.getD i false = false) ∨ (b = bF ∧ ∃ (i : Nat) (o : Oper) (t : TypeId) (x : Nat) (y : Operand), i < N ∧ ops[i]? = some o ∧ spK o.op = .st t x y ∧ L.getD i false = true)))
 -- what the frame shows once the operations of L have come up
 let Inv : Array Bool → Act → World → Prop := fun L a w => a.tmps.size = n ∧ a.defers = [] ∧ ∃ (hp : LH) (β' : Nat → Pl), Hp σ0 W β0 β' hp w ∧ (∀ i, i < σ.length → β' i = β i) ∧ σ.length ≤ hp.length ∧
  (∃ k, k ≤ N ∧ hp = Es k ∧ (∀ i, i ≤ k → ∃ bs, hp = Es i ++ bs) ∧ ∀ (i : Nat) (o : Oper), i < N → ops[i]? = some o → isCh o.op = true → (L.getD i false = true ↔ i < k)) ∧ Pend L a w hp β' ∧
  (∀ i, N ≤ i → i < ops.size → L.getD i false = false) ∧
  (∀ (i : Nat) (o : Oper), i < N → ops[i]? = some o → i ≠ ia → L.getD i false = true → inn hp.length (vs i) = true) ∧
  (∀ (t i : Nat) (o : Oper), i < N → ops[i]? = some o → i ≠ ia → o.dst = some t → L.getD i false = true → a.tmps.getD t undef = rl β' (vs i)) ∧
  (∀ t, has tm t = true → (∀ (i : Nat) (o : Oper), i < N → ops[i]? = some o → o.dst = some t → L.getD i false = false) → a.tmps.getD t undef = rl β (look tm t)) ∧
  (∀ (i : Nat) (o : Oper), ops[i]? = some o → L.getD i false = true → ∀ e ∈ o.after, Region.binds .any e = true → L.getD e.on false = true)
 -- a call that has come up has all calls before it done; likewise what waits for the last call
 have before : ∀ (L : Array Bool), L.size = ops.size → (∀ (i : Nat) (o : Oper), ops[i]? = some o → L.getD i false = true → ∀ e ∈ o.after, Region.binds .any e = true → L.getD e.on false = true) →
   ∀ (d j : Nat) (o : Oper), j ≤ d → j < N → ops[j]? = some o → (∀ e ∈ o.after, Region.binds .any e = true → L.getD e.on false = true) → qeJ ops (cs j) o = true → ∀ (i : Nat) (p : Oper), i < j → ops[i]? = some p → isCh p.op = true → L.getD i false = true := by
  intro L hL hcl d
  induction d with
  | zero => intro j o hjd hjN ho hed hbh i p hij; omega
  | succ d ih =>
   intro j o hjd hjN ho hed hbh i p hij hip hpc
   rcases csAt j (by omega) with ⟨h1, h2⟩ | ⟨c, q, h1, h2, h3, h4, h5⟩
   ·rw [h2 i p hij hip] at hpc; cases hpc
   ·rw [h1] at hbh
    have hlc : L.getD c false = true := qhH hcl 6 o c hed hbh
    by_cases hic : i = c
    ·rw [hic]; exact hlc
    by_cases hci : c < i
    ·rw [h5 i p hci hij hip] at hpc; cases hpc
    ·exact ih c q (by omega) (by omega) h3 (hcl c q h3 hlc) ((htrA c q (by omega) h3).2.1 h4) i p (by omega) hip hpc
 have main : ∀ (fuel : Nat) (L : Array Bool) (a : Act) (w : World), L.size = ops.size → L.toList.count false ≤ fuel → Inv L a w → wpAny P .any ops Q fuel L a w := by
  have done : ∀ (fuel : Nat) (L : Array Bool) (a : Act) (w : World), L.size = ops.size → L.toList.count false ≤ fuel → (∀ i, i < N → L.getD i false = true) → Inv L a w → wpAny P .any ops Q fuel L a w := by
   intro fuel L a w hL hc hall ⟨i1, i2, hp, β', i3, ib, il, iA, iP, i0, i4, i5, i6, _⟩
   have hhp : hp = Es N := by
    obtain ⟨k, hkN, hk, _, hkd⟩ := iA
    rw [hk]
    have := memStay k (N - k) (by omega) fun i o h1 h2 h3 => by
     cases hc : isCh o.op with
     | false => rfl
     | true =>
      have := (hkd i o (by omega) h3 hc).1 (hall i (by omega))
      omega
    rw [show k + (N - k) = N by omega] at this
    exact this.symm
   rw [← hhp] at hKE
   obtain ⟨kk, b, p1, p2, p3, p4, p5, p6⟩ : ∃ (kk : Nat) (b : Blk), a.tmps.getD da undef = .pointer (some ⟨kk, 0, none⟩) ∧ W.heap.size ≤ kk ∧ kk < w.heap.size ∧ w.heap[kk]? = some (.cells b.1 b.2 (0, 0)) ∧ (∀ i, i < hp.length → live hp i → (β' i).adr ≠ some kk) ∧ b = bF := by
    rcases iP with ⟨h1, _⟩ | ⟨_, kk, b, p1, p2, p3, p4, p5, p6⟩
    ·rw [hall ia hiaN] at h1; cases h1
    ·refine ⟨kk, b, p1, p2, p3, p4, p5, ?_⟩
     rcases p6 with ⟨rfl, hno⟩ | ⟨rfl, _⟩
     ·refine (noSt fun i o t x y hiN hi hk => ?_).symm
      have := hno i o t x y hiN hi hk
      rw [hall i hiN] at this; cases this
     ·rfl
   subst p6
   have hbid : b.1.map (rl β') = b.1 := by
    conv => rhs; rw [← Array.map_id b.1]
    exact Array.map_congr_left fun x hx => qcA (hbF.1 x (by simpa using hx)).1
   have hone : ∀ v ∈ b.1.toList, v.oneCell' = true := fun v hv => (hbF.1 v hv).2
   obtain ⟨β2, q1, q2, q3⟩ := i3.newAt (w' := w) b.1 b.2 ⟨some kk, none, 0, 0, 0⟩ (fun _ _ _ _ _ => rfl) (Nat.le_refl _) i3.below (fun _ => ⟨fun v hv => ⟨qc0 (hbF.1 v hv).1, hone v hv⟩, kk, rfl, by rw [hbid]; exact p4⟩) (fun rows g z he => by
    have := hbF.2
    rw [he] at this
    simp [isN, lstC] at this) (fun k hk => by
    simp only [Option.some.injEq] at hk
    subst hk
    exact ⟨p2, p3, p5⟩)
   have hfuel : ops.size - N ≤ fuel := by
    have h1 : L.toList.drop N = List.replicate (ops.size - N) false := by
     apply List.ext_getElem
     ·simp [hL]
     ·intro i h2 h3
      simp only [List.length_replicate] at h3
      have := i0 (N + i) (by omega) (by omega)
      have hlt : N + i < L.size := by omega
      simp only [List.getElem_drop, List.getElem_replicate, Array.getElem_toList]
      simpa [Array.getD, hlt] using this
    have h2 : (L.toList.drop N).count false ≤ L.toList.count false := (List.drop_sublist N L.toList).count_le false
    rw [h1, List.count_replicate_self] at h2
    omega
   refine qhZ hΦ (p := N) fe ft hK _ N fuel L (tms N) (hp ++ [b]) β2 a w rfl (Nat.le_refl _) hL (fun i hi _ => hall i hi) (fun i hi hi' => i0 i hi hi') hfuel ⟨⟨i1, fun t hht => ?_, i2⟩, ?_, q3, by have := hs.nle; simp; omega, fun i hi => by have := hs.nle; rw [q1 i (by omega), ib i (by omega)]; exact hs.bext i hi⟩ hKE
   ·by_cases hw : ∃ (i : Nat) (o : Oper), i < N ∧ ops[i]? = some o ∧ o.dst = some t
    ·obtain ⟨i, o, hiN, hi, ht⟩ := hw
     by_cases hia : i = ia
     ·subst hia
      rw [hoa] at hi
      simp only [Option.some.injEq] at hi
      subst hi
      rw [hda] at ht
      simp only [Option.some.injEq] at ht
      subst ht
      rw [p1, valE i oa da hiaN hoa hda, hva, EsF i (Nat.le_refl _) (by omega), ← hhp]
      simp [rl, mv, Pl.blk, q2]
     ·rw [i5 t i o hiN hi hia ht (hall i hiN), valE i o t hiN hi ht]
      exact (qeL (i4 i o hiN hi hia (hall i hiN)) q1).symm
    ·have hno : ∀ (i : Nat) (o : Oper), i < N → ops[i]? = some o → o.dst ≠ some t := fun i o hiN hi ht => hw ⟨i, o, hiN, hi, ht⟩
     have htm : has tm t = true := (hasE N (Nat.le_refl _) t hht).resolve_left fun ⟨i, o, hiN, hi, ht⟩ => hno i o hiN hi ht
     rw [i6 t htm fun i o hiN hi ht => absurd ht (hno i o hiN hi), freeE t hno]
     exact (qeL (qeM hs.env t) fun i hi => by rw [q1 i (by omega)]; exact ib i hi).symm
   ·have : ∀ k, k ≤ N → ∀ p ∈ tms k, inn (hp ++ [b]).length p.2 = true := by
     intro k
     induction k with
     | zero => intro _ p hp'; rw [h0] at hp'; exact qd2 (by simp; omega) (hs.env p hp')
     | succ k ih =>
      intro hk
      have ho : ops[k]? = some ops[k] := Array.getElem?_eq_getElem (by omega)
      obtain ⟨tm1, hal, hput⟩ := (htr' k _ (by omega) ho).put
      refine qhI (hal.inn (ih (by omega))) ?_ hput
      by_cases hka' : k = ia
      ·subst hka'
       rw [hva, EsF k (Nat.le_refl _) (by omega), ← hhp]
       simp [inn]
      ·exact qd2 (by simp) (i4 k _ (by omega) ho hka' (hall k (by omega)))
    exact this N (Nat.le_refl _)
  have allOf : ∀ (L : Array Bool), L.size = ops.size → Region.ready .any ops L = [] → ∀ i, i < ops.size → L.getD i false = true := by
   intro L hL hr i
   induction i using Nat.strongRecOn with
   | _ i ih =>
    intro hi
    rcases hb : L.getD i false with _ | _
    ·exfalso
     have ho : ops[i]? = some ops[i] := Array.getElem?_eq_getElem hi
     have : i ∈ Region.ready .any ops L := mem_ready.2 ⟨by simpa [Array.getD, hL, hi] using hb, ops[i], ho, fun e he hbd => ih e.on (fe i _ ho e he hbd) (by have := fe i _ ho e he hbd; omega)⟩
     rw [hr] at this
     cases this
    ·rfl
  intro fuel
  induction fuel with
  | zero =>
   intro L a w hL hc hi
   have hall : ∀ i, i < ops.size → L.getD i false = true := by
    intro i hlt
    have h1 : ¬ false ∈ L.toList := by
     intro hm
     have := List.count_pos_iff.2 hm
     omega
    rcases hb : L.getD i false with _ | _
    ·exfalso
     apply h1
     have : L[i]'(by omega) = false := by simpa [Array.getD, hL, hlt] using hb
     rw [← this]
     simp
    ·rfl
   exact done 0 L a w hL hc (fun i hi' => hall i (by omega)) hi
  | succ fuel ih =>
   intro L a w hL hc hi
   by_cases hall : ∀ i, i < N → L.getD i false = true
   ·exact done (fuel + 1) L a w hL hc hall hi
   refine ⟨fun hr => absurd (fun i hiN => allOf L hL hr i (by omega)) hall, fun j hj => ?_⟩
   obtain ⟨hun, o, ho, hedges⟩ := mem_ready.1 hj
   have hjN : j < N := by
    apply Nat.lt_of_not_le
    intro hle
    refine hall fun i hiN => ?_
    obtain ⟨_, _, _, _, _, _, _, _, _, _, _, _, _, iC⟩ := hi
    exact qhH iC 6 o i hedges (ft j o hle ho i (by omega))
   have hlt : j < ops.size := (Array.getElem?_eq_some_iff.1 ho).1
   have hLj : L[j]'(by omega) = false := by simpa [Array.getD, hL, hlt] using hun
   obtain ⟨i1, i2, hp, β', i3, ib, hlen', iA, iP, i0, i4, i5, i6, iC⟩ := hi
   -- what the operation reads is there
   have hread : ∀ t ∈ reads ops o, t ≠ da → has (tms j) t = true → a.tmps.getD t undef = rl β' (look (tms j) t) ∧ inn hp.length (look (tms j) t) = true := by
    intro t ht hta hht
    rw [readE j o t hjN ho ht]
    by_cases hw : ∃ (i : Nat) (p : Oper), i < N ∧ ops[i]? = some p ∧ p.dst = some t
    ·obtain ⟨i, p, hiN, hip, hpt⟩ := hw
     obtain ⟨hij, e, he, heq, hb⟩ := fr i j p o hiN hjN hip ho t hpt ht
     have hli : L.getD i false = true := by rw [← heq]; exact hedges e he hb
     rw [valE i p t hiN hip hpt]
     have hia : i ≠ ia := fun he => by
      subst he
      rw [hoa] at hip
      simp only [Option.some.injEq] at hip
      subst hip
      rw [hda] at hpt
      simp only [Option.some.injEq] at hpt
      exact hta hpt.symm
     exact ⟨i5 t i p hiN hip hia hpt hli, i4 i p hiN hip hia hli⟩
    ·have hno : ∀ (i : Nat) (p : Oper), i < N → ops[i]? = some p → p.dst ≠ some t := fun i p hiN hip hpt => hw ⟨i, p, hiN, hip, hpt⟩
     rw [freeE t hno]
     have htm : has tm t = true := (hasE j (by omega) t hht).resolve_left fun ⟨i, o, hiN, hi, ht⟩ => hno i o hiN hi ht
     exact ⟨(i6 t htm fun i p hiN hip hpt => absurd hpt (hno i p hiN hip)).trans (qeL (qeM hs.env t) ib).symm, qd2 hlen' (qeM hs.env t)⟩
   have hD := htr' j o hjN ho
   have hop : ∀ t, Operand.tmp t ∈ o.op.operands → t ∈ reads ops o := by
    intro t ht
    unfold reads
    rw [List.mem_append]
    left
    rw [List.mem_filterMap]
    exact ⟨.tmp t, by simpa using ht, rfl⟩
   -- the invariant qeJ it
   have hset : ∀ i, (L.setIfInBounds j true).getD i false = if i = j then true else L.getD i false := by
    intro i
    by_cases hij : i = j
    ·subst hij; simp [Array.getD, hL, hlt]
    ·simp only [hij, if_false]; exact getD_set_ne false (Ne.symm hij)
   have next : ∀ (w' : World) (hp' : LH) (β'' : Nat → Pl) (val : Value), (hp' = hp ∧ isCh o.op = false ∨ hp' = Es (j + 1) ∧ isCh o.op = true ∧ hp = Es j ∧ (∀ i, i ≤ j → ∃ bs, hp = Es i ++ bs) ∧ ∃ bs, hp' = hp ++ bs) → (∀ i, i < hp.length → β'' i = β' i) → hp.length ≤ hp'.length →
     Hp σ0 W β0 β'' hp' w' → (j ≠ ia → inn hp'.length (vs j) = true ∧ val = rl β'' (vs j)) → Pend (L.setIfInBounds j true) (a.put o.dst val) w' hp' β'' → wpAny P .any ops Q fuel (L.setIfInBounds j true) (a.put o.dst val) w' := by
    intro w' hp' β'' val hbb hb'' hll hp1 hv hpend
    refine ih _ _ w' (by simpa using hL) ?_ ⟨?_, ?_, hp', β'', hp1, fun i hi => by rw [hb'' i (Nat.lt_of_lt_of_le hi hlen')]; exact ib i hi, Nat.le_trans hlen' hll, ?_, hpend, fun i hi hi' => by rw [hset, if_neg (by omega)]; exact i0 i hi hi', ?_, ?_, ?_, fun i p hip hl e he hb => ?_⟩
    ·have hjl : j < L.toList.length := by simp; omega
     have hcs := List.count_set (l := L.toList) (i := j) (a := true) (b := false) hjl
     have hpos : 0 < L.toList.count false := List.count_pos_iff.2 (by rw [← hLj]; simp)
     have hgj : L.toList[j] = false := by simpa using hLj
     have htf : (true == false) = false := rfl
     rw [Array.toList_setIfInBounds, hcs, hgj]
     simp only [beq_self_eq_true, if_true, htf, Bool.false_eq_true, if_false]
     omega
    ·cases hdo : o.dst <;> simp [Act.put, i1]
    ·cases hdo : o.dst <;> simp [Act.put, i2]
    ·rcases hbb with ⟨rfl, hno⟩ | ⟨hE, ht, hpj, hpre, bs, hbs⟩
     ·obtain ⟨k, e1, e2, e3, e4⟩ := iA
      refine ⟨k, e1, e2, e3, fun i p hiN hip hl => ?_⟩
      rw [hset]
      by_cases hij : i = j
      ·subst hij
       rw [ho] at hip
       simp only [Option.some.injEq] at hip
       subst hip
       rw [hno] at hl
       cases hl
      ·rw [if_neg hij]; exact e4 i p hiN hip hl
     ·refine ⟨j + 1, hjN, hE, fun i hi => ?_, fun i p hiN hip hl => ?_⟩
      ·by_cases hij : i = j + 1
       ·subst hij; exact ⟨[], by rw [List.append_nil]; exact hE⟩
       ·obtain ⟨cs', hcs'⟩ := hpre i (by omega)
        exact ⟨cs' ++ bs, by rw [hbs, hcs', List.append_assoc]⟩
      ·rw [hset]
       by_cases hij : i = j
       ·subst hij; simp
       ·rw [if_neg hij]
        constructor
        ·intro hli
         obtain ⟨k, e1, e2, e3, e4⟩ := iA
         have h1 := (e4 i p hiN hip hl).1 hli
         have h2 : ¬ (j < k) := fun hjk => by
          have := (e4 j o hjN ho ht).2 hjk
          have h4 : L[j]'(by omega) = true := by simpa [Array.getD, hL, hlt] using this
          rw [hLj] at h4
          cases h4
         omega
        ·intro hij2
         exact before L hL iC j j o (Nat.le_refl _) hjN ho hedges ((htrA j o hjN ho).2.1 ht) i p (by omega) hip hl
    ·intro i p hiN hip hia hl
     rw [hset] at hl
     by_cases hij : i = j
     ·subst hij; exact (hv hia).1
     ·simp only [hij, if_false] at hl; exact qd2 hll (i4 i p hiN hip hia hl)
    ·intro t i p hiN hip hia hpt hl
     rw [hset] at hl
     by_cases hij : i = j
     ·subst hij
      rw [ho] at hip
      simp only [Option.some.injEq] at hip
      subst hip
      rw [(hv hia).2]
      have hbound : t < n := by
       obtain ⟨tm1, hal, this⟩ := hD.put
       rw [hpt] at this
       simp only [put] at this
       split at this
       ·rename_i hble; exact Nat.le_of_ble_eq_true hble
       ·simp at this
      simp [Act.put, hpt, Array.getD, i1, hbound]
     ·simp only [hij, if_false] at hl
      have hne : o.dst ≠ some t := fun hot => hij (fo i j p o hiN hjN hip ho t hpt hot)
      rw [qeL (i4 i p hiN hip hia hl) hb'', ← i5 t i p hiN hip hia hpt hl]
      cases hdo : o.dst with
      | none => rfl
      | some d =>
       have hdt : d ≠ t := fun e => hne (by rw [hdo, e])
       simp only [Act.put, Array.getD_eq_getD_getElem?, Array.getElem?_setIfInBounds_ne hdt]
    ·intro t htm hno
     have hne : o.dst ≠ some t := fun hot => by
      have := hno j o hjN ho hot
      rw [hset] at this
      simp at this
     have : a.tmps.getD t undef = rl β (look tm t) := i6 t htm fun i p hiN hip hpt => by
      have := hno i p hiN hip hpt
      rw [hset] at this
      split at this
      ·cases this
      ·exact this
     rw [← this]
     cases hdo : o.dst with
     | none => rfl
     | some d =>
      have hdt : d ≠ t := fun e => hne (by rw [hdo, e])
      simp only [Act.put, Array.getD_eq_getD_getElem?, Array.getElem?_setIfInBounds_ne hdt]
    ·rw [hset] at hl ⊢
     by_cases hej : e.on = j
     ·rw [if_pos hej]
     ·rw [if_neg hej]
      by_cases hij : i = j
      ·subst hij
       rw [ho] at hip
       simp only [Option.some.injEq] at hip
       subst hip
       exact hedges e he hb
      ·rw [if_neg hij] at hl
       exact iC i p hip hl e he hb
   -- the new variable stays where it is
   have pendStay : ∀ (w' : World) (hp' : LH) (β'' : Nat → Pl) (val : Value), j ≠ ia → (∀ t x y, spK o.op ≠ .st t x y) → (∀ i, i < hp.length → β'' i = β' i) → (∀ i, i < hp.length → hp'[i]? = hp[i]?) → qgY hp.length hp'.length β'' w w' → Pend (L.setIfInBounds j true) (a.put o.dst val) w' hp' β'' := by
    intro w' hp' β'' val hja hns hb'' hpre hF
    have hst : ∀ (i : Nat) (q : Oper) t x y, i < N → ops[i]? = some q → spK q.op = .st t x y → i ≠ j := fun i q t x y hiN hiq hk he => by
     subst he
     rw [ho] at hiq
     simp only [Option.some.injEq] at hiq
     subst hiq
     exact hns t x y hk
    rcases iP with ⟨h1, h2⟩ | ⟨h1, kk, b, p1, p2, p3, p4, p5, p6⟩
    ·exact Or.inl ⟨by rw [hset, if_neg (Ne.symm hja)]; exact h1, fun i q t x y hiN hiq hk => by rw [hset, if_neg (hst i q t x y hiN hiq hk)]; exact h2 i q t x y hiN hiq hk⟩
    ·refine Or.inr ⟨by rw [hset, if_neg (Ne.symm hja)]; exact h1, kk, b, ?_, p2, Nat.lt_of_lt_of_le p3 hF.1.size, by rw [hF.1.block kk p3]; exact p4, fun i hi hl => ?_, ?_⟩
     ·have hne : o.dst ≠ some da := fun hd => hja (fo j ia o oa hjN hiaN ho hoa da hd hda)
      rw [← p1]
      cases hdo : o.dst with
      | none => rfl
      | some d =>
       have hdt : d ≠ da := fun e => hne (by rw [hdo, e])
       simp only [Act.put, Array.getD_eq_getD_getElem?, Array.getElem?_setIfInBounds_ne hdt]
     ·by_cases hil : i < hp.length
      ·rw [hb'' i hil]
       exact p5 i hil fun t he => hl t (by rw [hpre i hil]; exact he)
      ·intro he
       have := hF.2 i (by omega) hi kk he
       omega
     ·rcases p6 with ⟨e1, e2⟩ | ⟨e1, i, q, t, x, y, hiN, hiq, hk, hl⟩
      ·exact Or.inl ⟨e1, fun i q t x y hiN hiq hk => by rw [hset, if_neg (hst i q t x y hiN hiq hk)]; exact e2 i q t x y hiN hiq hk⟩
      ·exact Or.inr ⟨e1, i, q, t, x, y, hiN, hiq, hk, by rw [hset]; split; rfl; exact hl⟩
   have grown : ∀ (hp' : LH), hp.length ≤ hp'.length → (∀ i, i < hp.length → hp'[i]? = hp[i]?) → ∃ bs, hp' = hp ++ bs := by
    intro hp' hle hpre
    refine ⟨hp'.drop hp.length, List.ext_getElem? fun i => ?_⟩
    by_cases hi : i < hp.length
    ·rw [List.getElem?_append_left hi]; exact hpre i hi
    ·rw [List.getElem?_append_right (by omega), List.getElem?_drop, show hp.length + (i - hp.length) = i by omega]
   unfold wpOp
   simp only [ho]
   cases hk : spK o.op with
   | bad => exact absurd hk hD.bad
   | no =>
    obtain ⟨hrd, hC, -, hchk, -⟩ := hD.no hk
    have hns : ∀ t x y, spK o.op ≠ .st t x y := fun t x y hh => by rw [hk] at hh; cases hh
    have hja : j ≠ ia := fun he => by
     subst he
     rw [hoa] at ho
     simp only [Option.some.injEq] at ho
     subst ho
     rw [hka] at hk
     cases hk
    have hread' : ∀ t ∈ reads ops o, has (tms j) t = true → a.tmps.getD t undef = rl β' (look (tms j) t) ∧ inn hp.length (look (tms j) t) = true := fun t ht => hread t ht fun he => hrd (by rw [← he]; exact ht)
    have hwant : Region.wanted o (yielded ops a.tmps) = qeD o ops (tms j) := qhD i1 fun g want d hg hgd => (hread' d (by
     unfold reads
     rw [List.mem_append]
     right
     rw [hg]
     simp only []
     rw [hgd]
     simp) (hC.gd g want d hg hgd)).1
    rw [hwant]
    have hx : ∀ tm1, qeZ tm1 (tms j) → ∀ x ∈ o.op.operands, evOk tm1 x = true → a.eval x = rl β' (ev tm1 x) := by
     intro tm1 hal x hx hok
     rw [hal.ev]
     rw [hal.ok] at hok
     cases x with
     | tmp t => exact (hread' t (hop t hx) hok).1
     | const v => simp only [Act.eval, ev]; exact (qcA hok).symm
     | global g => simp [evOk] at hok
     | func f => simp [Act.eval, ev, rl]
    have hi' : ∀ tm1, qeZ tm1 (tms j) → ∀ x ∈ o.op.operands, evOk tm1 x = true → inn hp.length (ev tm1 x) = true := by
     intro tm1 hal x hx hok
     rw [hal.ev]
     rw [hal.ok] at hok
     cases x with
     | tmp t => exact (hread' t (hop t hx) hok).2
     | const v => exact qc0 hok
     | global g => simp [evOk] at hok
     | func f => rfl
    cases hsp : isCh o.op with
    | true =>
     have hbf := before L hL iC j j o (Nat.le_refl _) hjN ho hedges ((htrA j o hjN ho).2.1 hsp)
     obtain ⟨hpj, hpre0⟩ : hp = Es j ∧ ∀ i, i ≤ j → ∃ bs, hp = Es i ++ bs := by
      obtain ⟨k, e1, e2, e3, e4⟩ := iA
      have h2 : ¬ (j < k) := fun hjk => by
       have := (e4 j o hjN ho hsp).2 hjk
       have h4 : L[j]'(by omega) = true := by simpa [Array.getD, hL, hlt] using this
       rw [hLj] at h4
       cases h4
      have hst : ∀ d, k + d ≤ j → Es (k + d) = Es k := fun d hd => memStay k d (by omega) fun i p h1 h3 h4 => by
       cases hc : isCh p.op with
       | false => rfl
       | true => have := (e4 i p (by omega) h4 hc).1 (hbf i p (by omega) h4 hc); omega
      have hst' : ∀ i, k ≤ i → i ≤ j → Es i = Es k := fun i h1 h3 => by have := hst (i - k) (by omega); rwa [show k + (i - k) = i by omega] at this
      refine ⟨by rw [e2, hst' j (by omega) (Nat.le_refl _)], fun i hi => ?_⟩
      by_cases hik : i ≤ k
      ·exact e3 i hik
      ·exact ⟨[], by rw [List.append_nil, e2, hst' i (by omega) hi]⟩
     rcases hwb : qeD o ops (tms j) with _ | _
     ·simp only [Bool.false_eq_true, if_false]
      obtain ⟨hu, hE1⟩ := hC.no hwb
      exact next w hp β' undef (Or.inr ⟨by rw [hE1]; exact hpj, hsp, hpj, hpre0, [], by simp⟩) (fun _ _ => rfl) (Nat.le_refl _) i3 (fun _ => ⟨by rw [hu]; rfl, by rw [hu, qe5]⟩) (pendStay w hp β' undef hja hns (fun _ _ => rfl) (fun _ _ => rfl) (qgY.refl _ _ _))
     ·simp only [if_true]
      obtain ⟨tm1, halk, hlen1, hstep⟩ := hC.ch hsp hwb
      rw [← hpj] at hstep
      refine Or.inl (qiB (n := n) (β := β') hΦ (K := fun v σ' b => some (v, σ', b)) (r := (vs j, Es (j + 1), true)) (tm := tm1) (hx _ halk) (hi' _ halk) i3 (hstep _ _) ?_)
      intro v σ3 kept β'' w' hb hle hpre hv hp' hk'
      simp only [Option.some.injEq, Prod.mk.injEq] at hk'
      obtain ⟨rfl, rfl, rfl⟩ := hk'
      obtain ⟨hpre1, hF⟩ := hpre rfl
      exact next w' _ β'' _ (Or.inr ⟨rfl, hsp, hpj, hpre0, grown _ hle hpre1⟩) hb hle hp' (fun _ => ⟨hv, rfl⟩) (pendStay w' _ β'' _ hja hns hb hpre1 hF)
    | false =>
     rcases hwb : qeD o ops (tms j) with _ | _
     ·simp only [Bool.false_eq_true, if_false]
      obtain ⟨hu, -⟩ := hC.no hwb
      exact next w hp β' undef (Or.inl ⟨rfl, hsp⟩) (fun _ _ => rfl) (Nat.le_refl _) i3 (fun _ => ⟨by rw [hu]; rfl, by rw [hu, qe5]⟩) (pendStay w hp β' undef hja hns (fun _ _ => rfl) (fun _ _ => rfl) (qgY.refl _ _ _))
     ·simp only [if_true]
      obtain ⟨tm1, halk, hstep⟩ := hC.yes hsp hwb
      have hB : ∃ bs, hp = pickB (qeJ ops (cs j) o) (Es j) σ ++ bs := by
       obtain ⟨k, e1, e2, e3, e4⟩ := iA
       cases hbh : qeJ ops (cs j) o with
       | false =>
        obtain ⟨bs, hbs⟩ := e3 0 (Nat.zero_le _)
        exact ⟨bs, by rw [hbs, hE0]; rfl⟩
       | true =>
        have hbf := before L hL iC j j o (Nat.le_refl _) hjN ho hedges hbh
        by_cases hjk : j ≤ k
        ·obtain ⟨bs, hbs⟩ := e3 j hjk
         exact ⟨bs, hbs⟩
        ·have hst := memStay k (j - k) (by omega) fun i p h1 h3 h4 => by
          cases hc : isCh p.op with
          | false => rfl
          | true => have := (e4 i p (by omega) h4 hc).1 (hbf i p (by omega) h4 hc); omega
         rw [show k + (j - k) = j by omega] at hst
         exact ⟨[], by rw [List.append_nil, e2, ← hst]; rfl⟩
      obtain ⟨bs, hbs⟩ := hB
      have hst := hstep bs (Value × LH × Bool) fun v σ' b => some (v, σ', b)
      rw [← hbs] at hst
      refine Or.inl (qiB (n := n) (β := β') hΦ (K := fun v σ' b => some (v, σ', b)) (r := (vs j, hp, true)) (tm := tm1) (hx _ halk) (hi' _ halk) i3 hst ?_)
      intro v σ3 kept β'' w' hb hle hpre hv hp' hk'
      simp only [Option.some.injEq, Prod.mk.injEq] at hk'
      obtain ⟨rfl, rfl, rfl⟩ := hk'
      obtain ⟨hpre1, hF⟩ := hpre rfl
      exact next w' _ β'' _ (Or.inl ⟨rfl, hsp⟩) hb (Nat.le_refl _) hp' (fun _ => ⟨hv, rfl⟩) (pendStay w' _ β'' _ hja hns hb hpre1 hF)
   | al t =>
    have hja : j = ia := alOnly j o t hjN ho hk
    obtain ⟨hg, -, ⟨bz, hz, hpz⟩, hdst, hv, hEj, -⟩ := hD.al t hk
    have hbz : bz = b0 := by
     rw [hja, hpa] at hpz
     simp only [Option.some.injEq, Prod.mk.injEq, and_true] at hpz
     exact hpz.symm
    subst hbz
    have hop' := spK_al hk
    have hwant : Region.wanted o (yielded ops a.tmps) = true := by unfold Region.wanted; rw [hg]
    simp only [hwant, if_true]
    have hst : step P Φ σ0.length o (tms j) hp (fun v σ' b => some (v, σ', b)) = some (Value.pointer (some ⟨hp.length, 0, none⟩), hp ++ [bz], true) := by
     unfold zblk at hz
     split at hz
     case h_2 => simp at hz
     rename_i z hzv
     split at hz
     case h_2 => simp at hz
     rename_i hcz
     simp only [Bool.and_eq_true] at hcz
     simp only [Option.some.injEq] at hz
     rw [← hz]
     have hcz' : (qgR z && plain z) = true := by simp [hcz.1.1, hcz.1.2]
     unfold step
     simp only [hop', hzv, hcz']
     rfl
    refine Or.inl (qiB (n := n) (β := β') hΦ (K := fun v σ' b => some (v, σ', b)) (r := (Value.pointer (some ⟨hp.length, 0, none⟩), hp ++ [bz], true)) (tm := tms j) ?_ ?_ i3 hst ?_)
    ·intro x hx
     rw [hop'] at hx; simp [Op.operands] at hx
    ·intro x hx
     rw [hop'] at hx; simp [Op.operands] at hx
    ·intro v σ1 kept β'' w' hb hle hpre hv1 hp' hkk
     simp only [Option.some.injEq, Prod.mk.injEq] at hkk
     obtain ⟨rfl, rfl, rfl⟩ := hkk
     obtain ⟨-, hF⟩ := hpre rfl
     have hcut := hp'.cut i3.mle (fun i c t hi hn v hv => (i3.lies.sc i c t hi hn v hv).1)
     obtain ⟨kk, q1, q2⟩ := hp'.lies.blk hp.length bz.1 bz.2 (by simp) zN
     have hid : bz.1.map (rl β'') = bz.1 := by
      conv => rhs; rw [← Array.map_id bz.1]
      exact Array.map_congr_left fun x hx => qcA (z0 x (by simpa using hx)).1
     rw [hid] at q2
     have hnew := hF.2 hp.length (Nat.le_refl _) (by simp) kk q1
     have hval : rl β'' (.pointer (some ⟨hp.length, 0, none⟩)) = .pointer (some ⟨kk, 0, none⟩) := by simp [rl, mv, Pl.blk, q1]
     rw [hval]
     have hnc : isCh o.op = false := by rw [hop']; rfl
     have hbound : da < n := by
      obtain ⟨tm1, hal, this⟩ := hD.put
      rw [hdst] at this
      simp only [put] at this
      split at this
      ·rename_i hble; exact Nat.le_of_ble_eq_true hble
      ·simp at this
     have hLjf : L.getD j false = false := by simp [Array.getD, hL, hlt, hLj]
     refine next w' hp β'' _ (Or.inl ⟨rfl, hnc⟩) hb (Nat.le_refl _) hcut (fun h => absurd hja h) (Or.inr ⟨by rw [hset, if_pos hja.symm], kk, bz, ?_, hp'.own hp.length i3.mle (by simp) kk q1, hp'.up hp.length (by simp) kk q1, q2, fun i hi hl he => ?_, Or.inl ⟨rfl, fun i q t' x y hiN hiq hkq => ?_⟩⟩)
     ·rw [hdst]
      simp [Act.put, Array.getD, i1, hbound]
     ·rw [hb i hi] at he
      have := i3.up i hi kk he
      omega
     ·rw [hset]
      by_cases hij : i = j
      ·subst hij
       rw [ho] at hiq
       simp only [Option.some.injEq] at hiq
       subst hiq
       rw [hk] at hkq
       cases hkq
      ·rw [if_neg hij]
       cases hli : L.getD i false with
       | false => rfl
       | true =>
        exfalso
        obtain ⟨hgi, hxi, -⟩ := (htr' i q hiN hiq).st t' x y hkq
        subst hxi
        have hrd : x ∈ reads ops q := by
         unfold reads
         rw [List.mem_append]
         left
         rw [List.mem_filterMap]
         exact ⟨.tmp x, by rw [spK_st hkq]; simp [Op.operands], rfl⟩
        obtain ⟨-, e, he, heq, hbd⟩ := fr ia i oa q hiaN hiN hoa hiq x hda hrd
        have := iC i q hiq hli e he hbd
        rw [heq, ← hja, hLjf] at this
        cases this
   | st t x y =>
    obtain ⟨hg, hxda, hyT, hv, hEj, -, hbh, hhx, hoy, hpy, b1, b2, off, e1, e2, hlx, hsto⟩ := hD.st t x y hk
    obtain ⟨hiaj, e3, e4, -⟩ := stFacts j o t x y hjN ho hk
    rw [e3] at e1
    simp only [Option.some.injEq, Prod.mk.injEq, and_true] at e1
    subst e1
    rw [e4] at e2
    simp only [Option.some.injEq, Prod.mk.injEq, and_true] at e2
    subst e2
    subst hxda
    have hop' := spK_st hk
    have hja : j ≠ ia := by omega
    have hnc : isCh o.op = false := by rw [hop']; rfl
    have hxr : x ∈ reads ops o := hop _ (by rw [hop']; simp [Op.operands])
    have hoff : off = 0 := by
     have h1 := readE j o x hjN ho hxr
     rw [hlx, valE ia oa x hiaN hoa hda, hva] at h1
     simp only [Value.pointer.injEq, Option.some.injEq, Addr.mk.injEq] at h1
     exact h1.2.1
    subst hoff
    have hbf := before L hL iC j j o (Nat.le_refl _) hjN ho hedges hbh
    have hhp : hp = Es j := by
     obtain ⟨k, hkN, hk', _, hkd⟩ := iA
     have h1 := memStay k (N - k) (by omega) fun i p h2 h3 h4 => by
      cases hc : isCh p.op with
      | false => rfl
      | true =>
       have h5 := chBefore i p (by omega) h4 hc
       have h6 := (hkd i p (by omega) h4 hc).1 (hbf i p (by omega) h4 hc)
       omega
     rw [show k + (N - k) = N by omega] at h1
     rw [hk', EsF j (by omega) (by omega), h1]
    rw [← hhp] at hlx hsto
    have hwant : Region.wanted o (yielded ops a.tmps) = true := by unfold Region.wanted; rw [hg]
    simp only [hwant, if_true]
    have hLia : L.getD ia false = true := by
     obtain ⟨-, e, he, heq, hbd⟩ := fr ia j oa o hiaN hjN hoa ho x hda hxr
     rw [← heq]; exact hedges e he hbd
    have hLjf : L.getD j false = false := by simp [Array.getD, hL, hlt, hLj]
    obtain ⟨kk, p1, p2, p3, p4, p5⟩ : ∃ kk, a.tmps.getD x undef = .pointer (some ⟨kk, 0, none⟩) ∧ W.heap.size ≤ kk ∧ kk < w.heap.size ∧ w.heap[kk]? = some (.cells b0.1 b0.2 (0, 0)) ∧ ∀ i, i < hp.length → live hp i → (β' i).adr ≠ some kk := by
     rcases iP with ⟨h1, _⟩ | ⟨_, kk, b, p1, p2, p3, p4, p5, p6⟩
     ·rw [hLia] at h1; cases h1
     ·rcases p6 with ⟨rfl, _⟩ | ⟨-, i, q, t', x', y', hiN, hiq, hkq, hl⟩
      ·exact ⟨kk, p1, p2, p3, p4, p5⟩
      ·have := stOnly i j q o t' x' y' t x y hiN hjN hiq ho hkq hk
       subst this
       rw [hLjf] at hl; cases hl
    have hbid : b0.1.map (rl β') = b0.1 := by
     conv => rhs; rw [← Array.map_id b0.1]
     exact Array.map_congr_left fun y hy => qcA (z0 y (by simpa using hy)).1
    obtain ⟨β2, q1, q2, q3⟩ := i3.newAt (w' := w) b0.1 b0.2 ⟨some kk, none, 0, 0, 0⟩ (fun _ _ _ _ _ => rfl) (Nat.le_refl _) i3.below (fun _ => ⟨fun v hv => ⟨qc0 (z0 v hv).1, (z0 v hv).2⟩, kk, rfl, by rw [hbid]; exact p4⟩) (fun rows g z he => by
     have := zN
     rw [he] at this
     simp [isN, lstC] at this) (fun k hk => by
     simp only [Option.some.injEq] at hk
     subst hk
     exact ⟨p2, p3, p5⟩)
    have hst2 : step P Φ σ0.length o (tms j) (hp ++ [b0]) (fun v σ' b => some (v, σ', b)) = some (undef, hp ++ [bF], false) := by
     have hokx : evOk (tms j) (.tmp x) = true := hhx
     have hall2 : (o.op.operands.toList.all (evOk (tms j))) = true := by
      rw [hop']
      simp [Op.operands, hokx, hoy]
     have hevx : ev (tms j) (.tmp x) = .pointer (some ⟨hp.length, 0, none⟩) := hlx
     unfold step
     simp only [hall2]
     simp only [hop', hevx, hsto]
    have hrlx : rl β2 (.pointer (some ⟨hp.length, 0, none⟩)) = .pointer (some ⟨kk, 0, none⟩) := by simp [rl, mv, Pl.blk, q2]
    refine Or.inl (qfX (n := n) (β := β2) hΦ (K := fun v σ' b => some (v, σ', b)) (r := (undef, hp ++ [bF], false)) (tm := tms j) ?_ ?_ q3 hst2 ?_)
    ·intro z hz hokz
     rw [hop'] at hz
     simp only [Op.operands] at hz
     have hzz : z = .tmp x ∨ z = y := by simpa using hz
     rcases hzz with rfl | rfl
     ·show a.tmps.getD x undef = rl β2 (look (tms j) x)
      rw [hlx, hrlx]
      exact p1
     ·rw [qcA hpy]
      cases z with
      | tmp y' =>
       have hyr : y' ∈ reads ops o := hop _ (by rw [hop']; simp [Op.operands])
       have hne : y' ≠ x := fun he => by
        subst he
        simp [isT, Nat.beq_refl] at hyT
       have hh : has (tms j) y' = true := hoy
       have := (hread y' hyr hne hh).1
       simp only [ev] at hpy
       rw [qcA hpy] at this
       exact this
      | const v => rfl
      | global g => simp [evOk] at hoy
      | func f => rfl
    ·intro z hz hokz
     rw [hop'] at hz
     simp only [Op.operands] at hz
     have hzz : z = .tmp x ∨ z = y := by simpa using hz
     rcases hzz with rfl | rfl
     ·show RX.inn (hp ++ [b0]).length (look (tms j) x) = true
      rw [hlx]
      simp [RX.inn]
     ·exact qc0 hpy
    ·intro v σ1 kept β'' w' hb hle hpre hv1 hp' hkk
     simp only [Option.some.injEq, Prod.mk.injEq] at hkk
     obtain ⟨rfl, rfl, rfl⟩ := hkk
     have hcut := hp'.cut i3.mle (fun i c t hi hn v hv => (i3.lies.sc i c t hi hn v hv).1)
     have hb2 : ∀ i, i < hp.length → β'' i = β' i := fun i hi => by rw [hb i (by simp; omega), q1 i hi]
     have hbk : (β'' hp.length).adr = some kk := by rw [hb hp.length (by simp), q2]
     have q4 := hp'.lies.at (i := hp.length) (c := bF.1) (t := bF.2) (by simp) hbF.2
     have hfid : bF.1.map (rl β'') = bF.1 := by
      conv => rhs; rw [← Array.map_id bF.1]
      exact Array.map_congr_left fun y hy => qcA (hbF.1 y (by simpa using hy)).1
     rw [hfid, Pl.blk, hbk] at q4
     rw [qe5]
     refine next w' hp β'' undef (Or.inl ⟨rfl, hnc⟩) hb2 (Nat.le_refl _) hcut (fun _ => ⟨by rw [hv]; rfl, by rw [hv, qe5]⟩) (Or.inr ⟨by rw [hset, if_neg (Ne.symm hja)]; exact hLia, kk, bF, ?_, p2, hp'.up hp.length (by simp) kk hbk, q4, fun i hi hl he => ?_, Or.inr ⟨rfl, j, o, t, x, y, hjN, ho, hk, by rw [hset, if_pos rfl]⟩⟩)
     ·have hne : o.dst ≠ some x := fun hd => hja (fo j ia o oa hjN hiaN ho hoa x hd hda)
      rw [← p1]
      cases hdo : o.dst with
      | none => rfl
      | some d =>
       have hdt : d ≠ x := fun e => hne (by rw [hdo, e])
       simp only [Act.put, Array.getD_eq_getD_getElem?, Array.getElem?_setIfInBounds_ne hdt]
     ·rw [hb2 i hi] at he
      exact p5 i hi hl he
 refine wp_region_any hm (main ops.size _ a _ (by simp) (by simp) ⟨hs.fr.size, hs.fr.defers, σ, β, hs.hp.drew, fun _ _ => rfl, Nat.le_refl _, ⟨0, Nat.zero_le _, hE0.symm, fun i hi => ⟨[], by rw [List.append_nil, show i = 0 by omega]; exact hE0.symm⟩, fun i o hiN hi hl => ?_⟩, Or.inl ⟨by simp [Array.getD, show ia < ops.size by omega], fun i o t x y hiN hi hk => by simp [Array.getD, show i < ops.size by omega]⟩, fun i _ hi => (by simp [Array.getD, hi]), ?_, ?_, ?_, fun i o hi hl => ?_⟩)
 ·have hlt : i < ops.size := (Array.getElem?_eq_some_iff.1 hi).1
  simp [Array.getD, hlt]
 ·intro i o hiN hi _ hl
  have hlt : i < ops.size := (Array.getElem?_eq_some_iff.1 hi).1
  simp [Array.getD, hlt] at hl
 ·intro t i o hiN hi _ ht hl
  have hlt : i < ops.size := (Array.getElem?_eq_some_iff.1 hi).1
  simp [Array.getD, hlt] at hl
 ·intro t htm _
  exact hs.fr.val t htm
 ·have hlt : i < ops.size := (Array.getElem?_eq_some_iff.1 hi).1
  simp [Array.getD, hlt] at hl
end Go.RX
