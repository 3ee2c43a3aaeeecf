/- Regions whose order is open, with calls that leave new memory: the calls come one after another, what lies beside them is quiet. -/
import Derived.Test.YtogpbandlpjccaaGreatDoorRxH
set_option linter.unusedSimpArgs false
set_option linter.unusedVariables false
namespace Go.RX
open Go.RowKit
def isCh : Op → Bool
 | .call ⟨.value _, _, _⟩ => true
 | .buildSlice .. => true
 | _ => false
def behind (ops : Array Oper) (c : Option Nat) (o : Oper) : Bool :=
 match c with
 | none => true
 | some i => reachN ops 6 o i
def pickB (b : Bool) (E σ : LH) : LH := match b with | true => E | false => σ
def evDrawC {R : Type} (P : Program) (Φ : Tab) (m n : Nat) (ops : Array Oper) : List Oper → Nat → Option Nat → Env → LH → LH → (Env → LH → Option R) → Option R
 | [], _, _, tm, _, E, K => K tm E
 | o :: rest, i, c, tm, σ, E, K => match isCh o.op with
  | true => (match behind ops c o with
   | true => guardK o ops tm
    (fun tm => step P Φ m o tm E fun v σ' b => match b && Nat.ble E.length σ'.length with
     | true => (match put n o.dst v tm with | some tm' => evDrawC P Φ m n ops rest (i + 1) (some i) tm' σ σ' K | none => none)
     | false => none)
    (fun tm => match put n o.dst undef tm with | some tm' => evDrawC P Φ m n ops rest (i + 1) (some i) tm' σ E K | none => none)
   | false => none)
  | false => guardK o ops tm
   (fun tm => match quiet Φ tm o with
    | true => step P Φ m o tm (pickB (behind ops c o) E σ) fun v _ _ => (match put n o.dst v tm with | some tm' => evDrawC P Φ m n ops rest (i + 1) c tm' σ E K | none => none)
    | false => none)
   (fun tm => match put n o.dst undef tm with | some tm' => evDrawC P Φ m n ops rest (i + 1) c tm' σ E K | none => none)
structure DidC (P : Program) (Φ : Tab) (m n : Nat) (ops : Array Oper) (o : Oper) (tm tm' : Env) (v : Value) (B E E' : LH) : Prop where
 put : ∃ tm1, Alike tm1 tm ∧ put n o.dst v tm1 = some tm'
 gd : Guarded o ops tm
 no : wantB o ops tm = false → v = undef ∧ E' = E
 ch : isCh o.op = true → wantB o ops tm = true → ∃ tm1, Alike tm1 tm ∧ E.length ≤ E'.length ∧ ∀ (S : Type) (K : Value → LH → Bool → Option S), step P Φ m o tm1 E K = K v E' true
 lo : isCh o.op = false → E' = E
 yes : isCh o.op = false → wantB o ops tm = true → ∃ tm1, Alike tm1 tm ∧ ∀ (bs : LH) (S : Type) (K : Value → LH → Bool → Option S), step P Φ m o tm1 (B ++ bs) K = K v (B ++ bs) true
theorem evDrawC_trace {R : Type} {P : Program} {Φ : Tab} {W : World} (hΦ : Φ.Ok P W) {m n : Nat} {ops : Array Oper} {σ : LH} {K : Env → LH → Option R} {r : R} :
  ∀ (l : List Oper) (i0 : Nat) (c : Option Nat) (tm : Env) (E : LH), evDrawC P Φ m n ops l i0 c tm σ E K = some r →
   ∃ (tms : Nat → Env) (vs : Nat → Value) (Es : Nat → LH) (cs : Nat → Option Nat), tms 0 = tm ∧ Es 0 = E ∧ cs 0 = c ∧
    (∀ i o, l[i]? = some o → DidC P Φ m n ops o (tms i) (tms (i + 1)) (vs i) (pickB (behind ops (cs i) o) (Es i) σ) (Es i) (Es (i + 1)) ∧
     cs (i + 1) = (if isCh o.op = true then some (i0 + i) else cs i) ∧ (isCh o.op = true → behind ops (cs i) o = true)) ∧ K (tms l.length) (Es l.length) = some r := by
 intro l
 induction l with
 | nil => intro i0 c tm E h; exact ⟨fun _ => tm, fun _ => undef, fun _ => E, fun _ => c, rfl, rfl, rfl, fun i o hi => by simp at hi, h⟩
 | cons o rest ih =>
  intro i0 c tm E h
  rw [evDrawC.eq_def] at h
  simp only [] at h
  have key : ∃ v tm' E', DidC P Φ m n ops o tm tm' v (pickB (behind ops c o) E σ) E E' ∧ (isCh o.op = true → behind ops c o = true) ∧ evDrawC P Φ m n ops rest (i0 + 1) (if isCh o.op = true then some i0 else c) tm' σ E' K = some r := by
   cases hc : isCh o.op with
   | true =>
    simp only [hc] at h
    split at h
    case h_2 => simp at h
    rename_i hbh
    obtain ⟨tm1, halk, hgd, hyes, hno⟩ := guardK_eq h
    by_cases hw : wantB o ops tm = true
    ·have hy := hyes hw
     obtain ⟨v, σ', b, h1, h2⟩ := step_val hΦ hy
     split at h1
     case h_2 => simp at h1
     rename_i hl
     simp only [Bool.and_eq_true] at hl
     obtain ⟨rfl, hl⟩ := hl
     split at h1
     case h_2 => simp at h1
     rename_i tm' htm
     refine ⟨v, tm', σ', ⟨⟨tm1, halk, htm⟩, hgd, fun hf => by simp [hw] at hf, fun _ _ => ⟨tm1, halk, Nat.le_of_ble_eq_true hl, h2⟩, fun hh => (by rw [hc] at hh; cases hh), fun hh => (by rw [hc] at hh; cases hh)⟩, fun _ => hbh, by simpa using h1⟩
    ·have hw' : wantB o ops tm = false := by simpa using hw
     have h' := hno hw'
     split at h'
     case h_2 => simp at h'
     rename_i tm' htm
     exact ⟨undef, tm', E, ⟨⟨tm1, halk, htm⟩, hgd, fun _ => ⟨rfl, rfl⟩, fun _ hf => by simp [hw'] at hf, fun _ => rfl, fun hh => (by rw [hc] at hh; cases hh)⟩, fun _ => hbh, by simpa using h'⟩
   | false =>
    simp only [hc] at h
    obtain ⟨tm1, halk, hgd, hyes, hno⟩ := guardK_eq h
    by_cases hw : wantB o ops tm = true
    ·have hy := hyes hw
     split at hy
     case h_2 => simp at hy
     rename_i hq
     obtain ⟨v, σ', b, h1, h2⟩ := step_val hΦ hy
     obtain ⟨v', hv'⟩ := step_mono hΦ hq hy
     have e1 := hv' [] (Value × LH × Bool) fun v σ' b => some (v, σ', b)
     rw [List.append_nil, h2] at e1
     simp only [Option.some.injEq, Prod.mk.injEq] at e1
     obtain ⟨rfl, _, _⟩ := e1
     split at h1
     case h_2 => simp at h1
     rename_i tm' htm
     exact ⟨v, tm', E, ⟨⟨tm1, halk, htm⟩, hgd, fun hf => by simp [hw] at hf, fun hh => (by rw [hc] at hh; cases hh), fun _ => rfl, fun _ _ => ⟨tm1, halk, hv'⟩⟩, fun hh => (by cases hh), by simpa using h1⟩
    ·have hw' : wantB o ops tm = false := by simpa using hw
     have h' := hno hw'
     split at h'
     case h_2 => simp at h'
     rename_i tm' htm
     exact ⟨undef, tm', E, ⟨⟨tm1, halk, htm⟩, hgd, fun _ => ⟨rfl, rfl⟩, fun hh => (by rw [hc] at hh; cases hh), fun _ => rfl, fun _ hf => by simp [hw'] at hf⟩, fun hh => (by cases hh), by simpa using h'⟩
  obtain ⟨v, tm', E1, hd, hbh, hr⟩ := key
  obtain ⟨tms, vs, Es, cs, g0, g1, g2, g3, g4⟩ := ih (i0 + 1) _ tm' E1 hr
  refine ⟨fun i => match i with | 0 => tm | i + 1 => tms i, fun i => match i with | 0 => v | i + 1 => vs i, fun i => match i with | 0 => E | i + 1 => Es i, fun i => match i with | 0 => c | i + 1 => cs i, rfl, rfl, rfl, fun i oi hi => ?_, g4⟩
  cases i with
  | zero =>
   simp only [List.getElem?_cons_zero, Option.some.injEq] at hi
   subst hi
   simp only [g0, g1, g2]
   exact ⟨hd, rfl, hbh⟩
  | succ i =>
   have := g3 i oi (by simpa using hi)
   rw [show i0 + (i + 1) = i0 + 1 + i by omega]
   exact this
theorem DidC.has {P : Program} {Φ : Tab} {m n : Nat} {ops : Array Oper} {o : Oper} {tm tm' : Env} {v : Value} {B E E' : LH} (h : DidC P Φ m n ops o tm tm' v B E E') {t : Nat} (ht : has tm' t = true) : o.dst = some t ∨ has tm t = true := by
 obtain ⟨tm1, hal, hp⟩ := h.put
 rcases has_put hp ht with h1 | h1
 ·exact Or.inl h1
 ·exact Or.inr (by rw [← hal.2.2 t]; exact h1)
theorem DidC.look {P : Program} {Φ : Tab} {m n : Nat} {ops : Array Oper} {o : Oper} {tm tm' : Env} {v : Value} {B E E' : LH} (h : DidC P Φ m n ops o tm tm' v B E E') (t : Nat) :
  (o.dst = some t → look tm' t = v) ∧ (o.dst ≠ some t → look tm' t = look tm t) := by
 obtain ⟨tm1, hal, hp⟩ := h.put
 exact ⟨(look_put hp t).1, fun hne => by rw [(look_put hp t).2 hne, hal.1 t]⟩
set_option maxHeartbeats 4000000 in
theorem evDrawC_run {R : Type} {P : Program} (hm : P.follows .mixedOrders = true) {Φ : Tab} {W : World} (hΦ : Φ.Ok P W) {σ0 σ : LH} {w : World} {β0 β βb : Nat → Pl} {n nb id : Nat} {ops : Array Oper} {tm : Env} {a : Act} {K : Env → LH → Option R} {r : R} {Q : Exit → Act → World → Prop}
  (hd : drawOk ops = true) (hs : St σ0 W β0 n nb βb β tm σ a w) (h : evDrawC P Φ σ0.length n ops (ops.toList.take (preN ops)) 0 none tm σ σ (fun tm σ => evOps P Φ σ0.length n ops (ops.toList.drop (preN ops)) tm σ K) = some r)
  (hK : ∀ tm' σ' β' a' w', St σ0 W β0 n nb βb β' tm' σ' a' w' → K tm' σ' = some r → Q .normal a' w') : (Code.region id ops true).wp P Q a w := by
 obtain ⟨hpn, fe, fr, fo, ft⟩ := drawOk_facts hd
 obtain ⟨tms, vs, Es, cs, h0, hE0, hc0, htr, hKE⟩ := evDrawC_trace hΦ (ops.toList.take (preN ops)) 0 none tm σ h
 generalize hpdef : preN ops = N at *
 have hlen : (ops.toList.take N).length = N := by simp; omega
 rw [hlen] at hKE
 have htrA : ∀ (i : Nat) (o : Oper), i < N → ops[i]? = some o → DidC P Φ σ0.length n ops o (tms i) (tms (i + 1)) (vs i) (pickB (behind ops (cs i) o) (Es i) σ) (Es i) (Es (i + 1)) ∧
   cs (i + 1) = (if isCh o.op = true then some i else cs i) ∧ (isCh o.op = true → behind ops (cs i) o = true) := fun i o hiN hi => by
  have := htr i o (by rw [List.getElem?_take_of_lt hiN, Array.getElem?_toList]; exact hi)
  rwa [Nat.zero_add] at this
 have htr' : ∀ (i : Nat) (o : Oper), i < N → ops[i]? = some o → DidC P Φ σ0.length n ops o (tms i) (tms (i + 1)) (vs i) (pickB (behind ops (cs i) o) (Es i) σ) (Es i) (Es (i + 1)) := fun i o hiN hi => (htrA i o hiN hi).1
 -- memory stays between two calls
 have memStay : ∀ (i d : Nat), i + d ≤ N → (∀ (k : Nat) (o : Oper), i ≤ k → k < i + d → ops[k]? = some o → isCh o.op = false) → Es (i + d) = Es i := by
  intro i d
  induction d with
  | zero => intro _ _; rfl
  | succ d ih =>
   intro hle hno
   have ho : ops[i + d]? = some ops[i + d] := Array.getElem?_eq_getElem (by omega)
   rw [← Nat.add_assoc, (htr' _ _ (by omega) ho).lo (hno _ _ (by omega) (by omega) ho)]
   exact ih (by omega) fun k o h1 h2 h3 => hno k o h1 (by omega) h3
 -- the last call before i
 have csAt : ∀ (i : Nat), i ≤ N → (cs i = none ∧ ∀ (k : Nat) (o : Oper), k < i → ops[k]? = some o → isCh o.op = false) ∨ (∃ (c : Nat) (o : Oper), cs i = some c ∧ c < i ∧ ops[c]? = some o ∧ isCh o.op = true ∧ ∀ (k : Nat) (p : Oper), c < k → k < i → ops[k]? = some p → isCh p.op = false) := by
  intro i
  induction i with
  | zero => intro _; exact Or.inl ⟨hc0, fun k o hk => by omega⟩
  | succ i ih =>
   intro hle
   have ho : ops[i]? = some ops[i] := Array.getElem?_eq_getElem (by omega)
   have hcs := (htrA i _ (by omega) ho).2.1
   by_cases hch : isCh (ops[i]).op = true
   ·rw [if_pos hch] at hcs
    exact Or.inr ⟨i, _, hcs, by omega, ho, hch, fun k p h1 h2 => by omega⟩
   ·have hch' : isCh (ops[i]).op = false := by simpa using hch
    rw [if_neg hch] at hcs
    have ext : ∀ (k : Nat) (o : Oper), k = i → ops[k]? = some o → isCh o.op = false := by
     intro k o hk hko
     subst hk
     rw [ho] at hko
     simp only [Option.some.injEq] at hko
     subst hko
     exact hch'
    rcases ih (by omega) with ⟨h1, h2⟩ | ⟨c, o, h1, h2, h3, h4, h5⟩
    ·refine Or.inl ⟨by rw [hcs]; exact h1, fun k o hk hko => ?_⟩
     by_cases hki : k = i
     ·exact ext k o hki hko
     ·exact h2 k o (by omega) hko
    ·refine Or.inr ⟨c, o, by rw [hcs]; exact h1, by omega, h3, h4, fun k p hk1 hk2 hkp => ?_⟩
     by_cases hki : k = i
     ·exact ext k p hki hkp
     ·exact h5 k p hk1 (by omega) hkp
 -- what no operation from i on to k writes stays
 have stay : ∀ (t i d : Nat), i + d ≤ N → (∀ (k : Nat) (o : Oper), i ≤ k → k < i + d → ops[k]? = some o → o.dst ≠ some t) → look (tms (i + d)) t = look (tms i) t := by
  intro t i d
  induction d with
  | zero => intro _ _; rfl
  | succ d ih =>
   intro hle hno
   have hltN : i + d < N := by omega
   have hlt : i + d < ops.size := by omega
   have ho : ops[i + d]? = some ops[i + d] := Array.getElem?_eq_getElem hlt
   rw [← Nat.add_assoc, ((htr' _ _ hltN ho).look t).2 (hno _ _ (by omega) (by omega) ho)]
   exact ih (by omega) fun k o h1 h2 h3 => hno k o h1 (by omega) h3
 have stayE : ∀ (t i : Nat), i ≤ N → (∀ (k : Nat) (o : Oper), i ≤ k → k < N → ops[k]? = some o → o.dst ≠ some t) → look (tms N) t = look (tms i) t := by
  intro t i hi hno
  have := stay t i (N - i) (by omega) fun k o h1 h2 h3 => hno k o h1 (by omega) h3
  rwa [show i + (N - i) = N by omega] at this
 have valE : ∀ (i : Nat) (o : Oper) (t : Nat), i < N → ops[i]? = some o → o.dst = some t → look (tms N) t = vs i := by
  intro i o t hiN hi ht
  rw [stayE t (i + 1) (by omega) fun k p h1 hk h2 h3 => by have := fo k i p o hk hiN h2 hi t h3 ht; omega]
  exact ((htr' i o hiN hi).look t).1 ht
 have readE : ∀ (j : Nat) (o : Oper) (t : Nat), j < N → ops[j]? = some o → t ∈ reads ops o → look (tms j) t = look (tms N) t := by
  intro j o t hjN hj ht
  exact (stayE t j (by omega) fun k p h1 hk h2 h3 => by have := (fr k j p o hk hjN h2 hj t h3 ht).1; omega).symm
 have freeE : ∀ (t : Nat), (∀ (k : Nat) (o : Oper), k < N → ops[k]? = some o → o.dst ≠ some t) → look (tms N) t = look tm t := by
  intro t hno
  rw [stayE t 0 (by omega) fun k o _ hk h2 => hno k o hk h2, h0]
 have hasE : ∀ (k : Nat), k ≤ N → ∀ t, has (tms k) t = true → (∃ (i : Nat) (o : Oper), i < N ∧ ops[i]? = some o ∧ o.dst = some t) ∨ has tm t = true := by
  intro k
  induction k with
  | zero => intro _ t ht; rw [h0] at ht; exact Or.inr ht
  | succ k ih =>
   intro hk t ht
   have ho : ops[k]? = some ops[k] := Array.getElem?_eq_getElem (by omega)
   rcases (htr' k _ (by omega) ho).has ht with h1 | h1
   ·exact Or.inl ⟨k, _, by omega, ho, h1⟩
   ·exact ih (by omega) t h1
 -- what the frame shows once the operations of L have come up
 let Inv : Array Bool → Act → World → Prop := fun L a w => a.tmps.size = n ∧ a.defers = [] ∧ ∃ (hp : LH) (β' : Nat → Pl), Hp σ0 W β0 β' hp w ∧ (∀ i, i < σ.length → β' i = β i) ∧ σ.length ≤ hp.length ∧
  (∃ k, k ≤ N ∧ hp = Es k ∧ (∀ i, i ≤ k → ∃ bs, hp = Es i ++ bs) ∧ ∀ (i : Nat) (o : Oper), i < N → ops[i]? = some o → isCh o.op = true → (L.getD i false = true ↔ i < k)) ∧
  (∀ i, N ≤ i → i < ops.size → L.getD i false = false) ∧
  (∀ (i : Nat) (o : Oper), i < N → ops[i]? = some o → L.getD i false = true → inn hp.length (vs i) = true) ∧
  (∀ (t i : Nat) (o : Oper), i < N → ops[i]? = some o → o.dst = some t → L.getD i false = true → a.tmps.getD t undef = rl β' (vs i)) ∧
  (∀ t, has tm t = true → (∀ (i : Nat) (o : Oper), i < N → ops[i]? = some o → o.dst = some t → L.getD i false = false) → a.tmps.getD t undef = rl β (look tm t)) ∧
  (∀ (i : Nat) (o : Oper), ops[i]? = some o → L.getD i false = true → ∀ e ∈ o.after, Region.binds .any e = true → L.getD e.on false = true)
 -- a call that has come up has all calls before it done; likewise what waits for the last call
 have before : ∀ (L : Array Bool), L.size = ops.size → (∀ (i : Nat) (o : Oper), ops[i]? = some o → L.getD i false = true → ∀ e ∈ o.after, Region.binds .any e = true → L.getD e.on false = true) →
   ∀ (d j : Nat) (o : Oper), j ≤ d → j < N → ops[j]? = some o → (∀ e ∈ o.after, Region.binds .any e = true → L.getD e.on false = true) → behind ops (cs j) o = true → ∀ (i : Nat) (p : Oper), i < j → ops[i]? = some p → isCh p.op = true → L.getD i false = true := by
  intro L hL hcl d
  induction d with
  | zero => intro j o hjd hjN ho hed hbh i p hij; omega
  | succ d ih =>
   intro j o hjd hjN ho hed hbh i p hij hip hpc
   rcases csAt j (by omega) with ⟨h1, h2⟩ | ⟨c, q, h1, h2, h3, h4, h5⟩
   ·rw [h2 i p hij hip] at hpc; cases hpc
   ·rw [h1] at hbh
    have hlc : L.getD c false = true := reached hcl 6 o c hed hbh
    by_cases hic : i = c
    ·rw [hic]; exact hlc
    by_cases hci : c < i
    ·rw [h5 i p hci hij hip] at hpc; cases hpc
    ·exact ih c q (by omega) (by omega) h3 (hcl c q h3 hlc) ((htrA c q (by omega) h3).2.2 h4) i p (by omega) hip hpc
 have main : ∀ (fuel : Nat) (L : Array Bool) (a : Act) (w : World), L.size = ops.size → L.toList.count false ≤ fuel → Inv L a w → wpAny P .any ops Q fuel L a w := by
  have done : ∀ (fuel : Nat) (L : Array Bool) (a : Act) (w : World), L.size = ops.size → L.toList.count false ≤ fuel → (∀ i, i < N → L.getD i false = true) → Inv L a w → wpAny P .any ops Q fuel L a w := by
   intro fuel L a w hL hc hall ⟨i1, i2, hp, β', i3, ib, il, iA, i0, i4, i5, i6, _⟩
   have hhp : hp = Es N := by
    obtain ⟨k, hkN, hk, _, hkd⟩ := iA
    rw [hk]
    have := memStay k (N - k) (by omega) fun i o h1 h2 h3 => by
     cases hc : isCh o.op with
     | false => rfl
     | true =>
      have := (hkd i o (by omega) h3 hc).1 (hall i (by omega))
      omega
    rw [show k + (N - k) = N by omega] at this
    exact this.symm
   rw [← hhp] at hKE
   have hfuel : ops.size - N ≤ fuel := by
    have h1 : L.toList.drop N = List.replicate (ops.size - N) false := by
     apply List.ext_getElem
     ·simp [hL]
     ·intro i h2 h3
      simp only [List.length_replicate] at h3
      have := i0 (N + i) (by omega) (by omega)
      have hlt : N + i < L.size := by omega
      simp only [List.getElem_drop, List.getElem_replicate, Array.getElem_toList]
      simpa [Array.getD, hlt] using this
    have h2 : (L.toList.drop N).count false ≤ L.toList.count false := (List.drop_sublist N L.toList).count_le false
    rw [h1, List.count_replicate_self] at h2
    omega
   refine evTail_run hΦ (p := N) fe ft hK _ N fuel L (tms N) hp β' a w rfl (Nat.le_refl _) hL (fun i hi _ => hall i hi) (fun i hi hi' => i0 i hi hi') hfuel ⟨⟨i1, fun t hht => ?_, i2⟩, ?_, i3, by have := hs.nle; omega, fun i hi => by have := hs.nle; rw [ib i (by omega)]; exact hs.bext i hi⟩ hKE
   ·by_cases hw : ∃ (i : Nat) (o : Oper), i < N ∧ ops[i]? = some o ∧ o.dst = some t
    ·obtain ⟨i, o, hiN, hi, ht⟩ := hw
     rw [i5 t i o hiN hi ht (hall i hiN), valE i o t hiN hi ht]
    ·have hno : ∀ (i : Nat) (o : Oper), i < N → ops[i]? = some o → o.dst ≠ some t := fun i o hiN hi ht => hw ⟨i, o, hiN, hi, ht⟩
     have htm : has tm t = true := (hasE N (Nat.le_refl _) t hht).resolve_left fun ⟨i, o, hiN, hi, ht⟩ => hno i o hiN hi ht
     rw [i6 t htm fun i o hiN hi ht => absurd ht (hno i o hiN hi), freeE t hno]
     exact (rl_congr (look_inn hs.env t) ib).symm
   ·have : ∀ k, k ≤ N → ∀ p ∈ tms k, inn hp.length p.2 = true := by
     intro k
     induction k with
     | zero => intro _ p hp'; rw [h0] at hp'; exact inn_mono il (hs.env p hp')
     | succ k ih =>
      intro hk
      have ho : ops[k]? = some ops[k] := Array.getElem?_eq_getElem (by omega)
      obtain ⟨tm1, hal, hput⟩ := (htr' k _ (by omega) ho).put
      exact put_inn (hal.inn (ih (by omega))) (i4 k _ (by omega) ho (hall k (by omega))) hput
    exact this N (Nat.le_refl _)
  have allOf : ∀ (L : Array Bool), L.size = ops.size → Region.ready .any ops L = [] → ∀ i, i < ops.size → L.getD i false = true := by
   intro L hL hr i
   induction i using Nat.strongRecOn with
   | _ i ih =>
    intro hi
    rcases hb : L.getD i false with _ | _
    ·exfalso
     have ho : ops[i]? = some ops[i] := Array.getElem?_eq_getElem hi
     have : i ∈ Region.ready .any ops L := mem_ready.2 ⟨by simpa [Array.getD, hL, hi] using hb, ops[i], ho, fun e he hbd => ih e.on (fe i _ ho e he hbd) (by have := fe i _ ho e he hbd; omega)⟩
     rw [hr] at this
     cases this
    ·rfl
  intro fuel
  induction fuel with
  | zero =>
   intro L a w hL hc hi
   have hall : ∀ i, i < ops.size → L.getD i false = true := by
    intro i hlt
    have h1 : ¬ false ∈ L.toList := by
     intro hm
     have := List.count_pos_iff.2 hm
     omega
    rcases hb : L.getD i false with _ | _
    ·exfalso
     apply h1
     have : L[i]'(by omega) = false := by simpa [Array.getD, hL, hlt] using hb
     rw [← this]
     simp
    ·rfl
   exact done 0 L a w hL hc (fun i hi' => hall i (by omega)) hi
  | succ fuel ih =>
   intro L a w hL hc hi
   by_cases hall : ∀ i, i < N → L.getD i false = true
   ·exact done (fuel + 1) L a w hL hc hall hi
   refine ⟨fun hr => absurd (fun i hiN => allOf L hL hr i (by omega)) hall, fun j hj => ?_⟩
   obtain ⟨hun, o, ho, hedges⟩ := mem_ready.1 hj
   have hjN : j < N := by
    apply Nat.lt_of_not_le
    intro hle
    refine hall fun i hiN => ?_
    obtain ⟨_, _, _, _, _, _, _, _, _, _, _, _, iC⟩ := hi
    exact reached iC 6 o i hedges (ft j o hle ho i (by omega))
   have hlt : j < ops.size := (Array.getElem?_eq_some_iff.1 ho).1
   have hLj : L[j]'(by omega) = false := by simpa [Array.getD, hL, hlt] using hun
   obtain ⟨i1, i2, hp, β', i3, ib, hlen', iA, i0, i4, i5, i6, iC⟩ := hi
   -- what the operation reads is there
   have hread : ∀ t ∈ reads ops o, has (tms j) t = true → a.tmps.getD t undef = rl β' (look (tms j) t) ∧ inn hp.length (look (tms j) t) = true := by
    intro t ht hht
    rw [readE j o t hjN ho ht]
    by_cases hw : ∃ (i : Nat) (p : Oper), i < N ∧ ops[i]? = some p ∧ p.dst = some t
    ·obtain ⟨i, p, hiN, hip, hpt⟩ := hw
     obtain ⟨hij, e, he, heq, hb⟩ := fr i j p o hiN hjN hip ho t hpt ht
     have hli : L.getD i false = true := by rw [← heq]; exact hedges e he hb
     rw [valE i p t hiN hip hpt]
     exact ⟨i5 t i p hiN hip hpt hli, i4 i p hiN hip hli⟩
    ·have hno : ∀ (i : Nat) (p : Oper), i < N → ops[i]? = some p → p.dst ≠ some t := fun i p hiN hip hpt => hw ⟨i, p, hiN, hip, hpt⟩
     rw [freeE t hno]
     have htm : has tm t = true := (hasE j (by omega) t hht).resolve_left fun ⟨i, o, hiN, hi, ht⟩ => hno i o hiN hi ht
     exact ⟨(i6 t htm fun i p hiN hip hpt => absurd hpt (hno i p hiN hip)).trans (rl_congr (look_inn hs.env t) ib).symm, inn_mono hlen' (look_inn hs.env t)⟩
   have hD := htr' j o hjN ho
   have hwant : Region.wanted o (yielded ops a.tmps) = wantB o ops (tms j) := wanted_of i1 fun g want d hg hgd => (hread d (by
    unfold reads
    rw [List.mem_append]
    right
    rw [hg]
    simp only []
    rw [hgd]
    simp) (hD.gd g want d hg hgd)).1
   have hop : ∀ t, Operand.tmp t ∈ o.op.operands → t ∈ reads ops o := by
    intro t ht
    unfold reads
    rw [List.mem_append]
    left
    rw [List.mem_filterMap]
    exact ⟨.tmp t, by simpa using ht, rfl⟩
   -- the invariant behind it
   have next : ∀ (w' : World) (hp' : LH) (β'' : Nat → Pl), (hp' = hp ∧ isCh o.op = false ∨ hp' = Es (j + 1) ∧ isCh o.op = true ∧ hp = Es j ∧ (∀ i, i ≤ j → ∃ bs, hp = Es i ++ bs) ∧ ∃ bs, hp' = hp ++ bs) → (∀ i, i < hp.length → β'' i = β' i) → hp.length ≤ hp'.length →
     Hp σ0 W β0 β'' hp' w' → inn hp'.length (vs j) = true → wpAny P .any ops Q fuel (L.setIfInBounds j true) (a.put o.dst (rl β'' (vs j))) w' := by
    intro w' hp' β'' hbb hb'' hll hp1 hv
    have hset : ∀ i, (L.setIfInBounds j true).getD i false = if i = j then true else L.getD i false := by
     intro i
     by_cases hij : i = j
     ·subst hij; simp [Array.getD, hL, hlt]
     ·simp only [hij, if_false]; exact getD_set_ne false (Ne.symm hij)
    refine ih _ _ w' (by simpa using hL) ?_ ⟨?_, ?_, hp', β'', hp1, fun i hi => by rw [hb'' i (Nat.lt_of_lt_of_le hi hlen')]; exact ib i hi, Nat.le_trans hlen' hll, ?_, fun i hi hi' => by rw [hset, if_neg (by omega)]; exact i0 i hi hi', ?_, ?_, ?_, fun i p hip hl e he hb => ?_⟩
    ·have hjl : j < L.toList.length := by simp; omega
     have hcs := List.count_set (l := L.toList) (i := j) (a := true) (b := false) hjl
     have hpos : 0 < L.toList.count false := List.count_pos_iff.2 (by rw [← hLj]; simp)
     have hgj : L.toList[j] = false := by simpa using hLj
     have htf : (true == false) = false := rfl
     rw [Array.toList_setIfInBounds, hcs, hgj]
     simp only [beq_self_eq_true, if_true, htf, Bool.false_eq_true, if_false]
     omega
    ·cases hdo : o.dst <;> simp [Act.put, i1]
    ·cases hdo : o.dst <;> simp [Act.put, i2]
    ·rcases hbb with ⟨rfl, hno⟩ | ⟨hE, ht, hpj, hpre, bs, hbs⟩
     ·obtain ⟨k, e1, e2, e3, e4⟩ := iA
      refine ⟨k, e1, e2, e3, fun i p hiN hip hl => ?_⟩
      rw [hset]
      by_cases hij : i = j
      ·subst hij
       rw [ho] at hip
       simp only [Option.some.injEq] at hip
       subst hip
       rw [hno] at hl
       cases hl
      ·rw [if_neg hij]; exact e4 i p hiN hip hl
     ·refine ⟨j + 1, hjN, hE, fun i hi => ?_, fun i p hiN hip hl => ?_⟩
      ·by_cases hij : i = j + 1
       ·subst hij; exact ⟨[], by rw [List.append_nil]; exact hE⟩
       ·obtain ⟨cs', hcs'⟩ := hpre i (by omega)
        exact ⟨cs' ++ bs, by rw [hbs, hcs', List.append_assoc]⟩
      ·rw [hset]
       by_cases hij : i = j
       ·subst hij; simp
       ·rw [if_neg hij]
        constructor
        ·intro hli
         obtain ⟨k, e1, e2, e3, e4⟩ := iA
         have h1 := (e4 i p hiN hip hl).1 hli
         have h2 : ¬ (j < k) := fun hjk => by
          have := (e4 j o hjN ho ht).2 hjk
          have h4 : L[j]'(by omega) = true := by simpa [Array.getD, hL, hlt] using this
          rw [hLj] at h4
          cases h4
         omega
        ·intro hij2
         exact before L hL iC j j o (Nat.le_refl _) hjN ho hedges ((htrA j o hjN ho).2.2 ht) i p (by omega) hip hl
    ·intro i p hiN hip hl
     rw [hset] at hl
     by_cases hij : i = j
     ·subst hij; exact hv
     ·simp only [hij, if_false] at hl; exact inn_mono hll (i4 i p hiN hip hl)
    ·intro t i p hiN hip hpt hl
     rw [hset] at hl
     by_cases hij : i = j
     ·subst hij
      rw [ho] at hip
      simp only [Option.some.injEq] at hip
      subst hip
      have hbound : t < n := by
       obtain ⟨tm1, hal, this⟩ := hD.put
       rw [hpt] at this
       simp only [put] at this
       split at this
       ·rename_i hble; exact Nat.le_of_ble_eq_true hble
       ·simp at this
      simp [Act.put, hpt, Array.getD, i1, hbound]
     ·simp only [hij, if_false] at hl
      have hne : o.dst ≠ some t := fun hot => hij (fo i j p o hiN hjN hip ho t hpt hot)
      rw [rl_congr (i4 i p hiN hip hl) hb'', ← i5 t i p hiN hip hpt hl]
      cases hdo : o.dst with
      | none => rfl
      | some d =>
       have hdt : d ≠ t := fun e => hne (by rw [hdo, e])
       simp only [Act.put, Array.getD_eq_getD_getElem?, Array.getElem?_setIfInBounds_ne hdt]
    ·intro t htm hno
     have hne : o.dst ≠ some t := fun hot => by
      have := hno j o hjN ho hot
      rw [hset] at this
      simp at this
     have : a.tmps.getD t undef = rl β (look tm t) := i6 t htm fun i p hiN hip hpt => by
      have := hno i p hiN hip hpt
      rw [hset] at this
      split at this
      ·cases this
      ·exact this
     rw [← this]
     cases hdo : o.dst with
     | none => rfl
     | some d =>
      have hdt : d ≠ t := fun e => hne (by rw [hdo, e])
      simp only [Act.put, Array.getD_eq_getD_getElem?, Array.getElem?_setIfInBounds_ne hdt]
    ·rw [hset] at hl ⊢
     by_cases hej : e.on = j
     ·rw [if_pos hej]
     ·rw [if_neg hej]
      by_cases hij : i = j
      ·subst hij
       rw [ho] at hip
       simp only [Option.some.injEq] at hip
       subst hip
       exact hedges e he hb
      ·rw [if_neg hij] at hl
       exact iC i p hip hl e he hb
   unfold wpOp
   simp only [ho, hwant]
   have hx : ∀ tm1, Alike tm1 (tms j) → ∀ x ∈ o.op.operands, evOk tm1 x = true → a.eval x = rl β' (ev tm1 x) := by
    intro tm1 hal x hx hok
    rw [hal.ev]
    rw [hal.ok] at hok
    cases x with
    | tmp t => exact (hread t (hop t hx) hok).1
    | const v => simp only [Act.eval, ev]; exact (rl_plain hok).symm
    | global g => simp [evOk] at hok
    | func f => simp [Act.eval, ev, rl]
   have hi' : ∀ tm1, Alike tm1 (tms j) → ∀ x ∈ o.op.operands, evOk tm1 x = true → inn hp.length (ev tm1 x) = true := by
    intro tm1 hal x hx hok
    rw [hal.ev]
    rw [hal.ok] at hok
    cases x with
    | tmp t => exact (hread t (hop t hx) hok).2
    | const v => exact plain_inn hok
    | global g => simp [evOk] at hok
    | func f => rfl
   have grown : ∀ (hp' : LH), hp.length ≤ hp'.length → (∀ i, i < hp.length → hp'[i]? = hp[i]?) → ∃ bs, hp' = hp ++ bs := by
    intro hp' hle hpre
    refine ⟨hp'.drop hp.length, List.ext_getElem? fun i => ?_⟩
    by_cases hi : i < hp.length
    ·rw [List.getElem?_append_left hi]; exact hpre i hi
    ·rw [List.getElem?_append_right (by omega), List.getElem?_drop, show hp.length + (i - hp.length) = i by omega]
   cases hsp : isCh o.op with
   | true =>
    have hbf := before L hL iC j j o (Nat.le_refl _) hjN ho hedges ((htrA j o hjN ho).2.2 hsp)
    obtain ⟨hpj, hpre0⟩ : hp = Es j ∧ ∀ i, i ≤ j → ∃ bs, hp = Es i ++ bs := by
     obtain ⟨k, e1, e2, e3, e4⟩ := iA
     have h2 : ¬ (j < k) := fun hjk => by
      have := (e4 j o hjN ho hsp).2 hjk
      have h4 : L[j]'(by omega) = true := by simpa [Array.getD, hL, hlt] using this
      rw [hLj] at h4
      cases h4
     have hst : ∀ d, k + d ≤ j → Es (k + d) = Es k := fun d hd => memStay k d (by omega) fun i p h1 h3 h4 => by
      cases hc : isCh p.op with
      | false => rfl
      | true => have := (e4 i p (by omega) h4 hc).1 (hbf i p (by omega) h4 hc); omega
     have hst' : ∀ i, k ≤ i → i ≤ j → Es i = Es k := fun i h1 h3 => by have := hst (i - k) (by omega); rwa [show k + (i - k) = i by omega] at this
     refine ⟨by rw [e2, hst' j (by omega) (Nat.le_refl _)], fun i hi => ?_⟩
     by_cases hik : i ≤ k
     ·exact e3 i hik
     ·exact ⟨[], by rw [List.append_nil, e2, hst' i (by omega) hi]⟩
    rcases hwb : wantB o ops (tms j) with _ | _
    ·simp only [Bool.false_eq_true, if_false]
     obtain ⟨hu, hE1⟩ := hD.no hwb
     have := next w hp β' (Or.inr ⟨by rw [hE1]; exact hpj, hsp, hpj, hpre0, [], by simp⟩) (fun _ _ => rfl) (Nat.le_refl _) i3 (by rw [hu]; rfl)
     rw [hu, rl_undef] at this
     exact this
    ·simp only [if_true]
     obtain ⟨tm1, halk, hlen1, hstep⟩ := hD.ch hsp hwb
     rw [← hpj] at hstep
     refine Or.inl (step_run (n := n) (β := β') hΦ (K := fun v σ' b => some (v, σ', b)) (r := (vs j, Es (j + 1), true)) (tm := tm1) (hx _ halk) (hi' _ halk) i3 (hstep _ _) ?_)
     intro v σ3 kept β'' w' hb hle hpre hv hp' hk
     simp only [Option.some.injEq, Prod.mk.injEq] at hk
     obtain ⟨rfl, rfl, rfl⟩ := hk
     exact next w' _ β'' (Or.inr ⟨rfl, hsp, hpj, hpre0, grown _ hle (hpre rfl)⟩) hb hle hp' hv
   | false =>
    rcases hwb : wantB o ops (tms j) with _ | _
    ·simp only [Bool.false_eq_true, if_false]
     obtain ⟨hu, -⟩ := hD.no hwb
     have := next w hp β' (Or.inl ⟨rfl, hsp⟩) (fun _ _ => rfl) (Nat.le_refl _) i3 (by rw [hu]; rfl)
     rw [hu, rl_undef] at this
     exact this
    ·simp only [if_true]
     obtain ⟨tm1, halk, hstep⟩ := hD.yes hsp hwb
     have hB : ∃ bs, hp = pickB (behind ops (cs j) o) (Es j) σ ++ bs := by
      obtain ⟨k, e1, e2, e3, e4⟩ := iA
      cases hbh : behind ops (cs j) o with
      | false =>
       obtain ⟨bs, hbs⟩ := e3 0 (Nat.zero_le _)
       exact ⟨bs, by rw [hbs, hE0]; rfl⟩
      | true =>
       have hbf := before L hL iC j j o (Nat.le_refl _) hjN ho hedges hbh
       by_cases hjk : j ≤ k
       ·obtain ⟨bs, hbs⟩ := e3 j hjk
        exact ⟨bs, hbs⟩
       ·have hst := memStay k (j - k) (by omega) fun i p h1 h3 h4 => by
         cases hc : isCh p.op with
         | false => rfl
         | true => have := (e4 i p (by omega) h4 hc).1 (hbf i p (by omega) h4 hc); omega
        rw [show k + (j - k) = j by omega] at hst
        exact ⟨[], by rw [List.append_nil, e2, ← hst]; rfl⟩
     obtain ⟨bs, hbs⟩ := hB
     have hst := hstep bs (Value × LH × Bool) fun v σ' b => some (v, σ', b)
     rw [← hbs] at hst
     refine Or.inl (step_run (n := n) (β := β') hΦ (K := fun v σ' b => some (v, σ', b)) (r := (vs j, hp, true)) (tm := tm1) (hx _ halk) (hi' _ halk) i3 hst ?_)
     intro v σ3 kept β'' w' hb hle hpre hv hp' hk
     simp only [Option.some.injEq, Prod.mk.injEq] at hk
     obtain ⟨rfl, rfl, rfl⟩ := hk
     exact next w' _ β'' (Or.inl ⟨rfl, hsp⟩) hb (Nat.le_refl _) hp' hv
 refine wp_region_any hm (main ops.size _ a _ (by simp) (by simp) ⟨hs.fr.size, hs.fr.defers, σ, β, hs.hp.drew, fun _ _ => rfl, Nat.le_refl _, ⟨0, Nat.zero_le _, hE0.symm, fun i hi => ⟨[], by rw [List.append_nil, show i = 0 by omega]; exact hE0.symm⟩, fun i o hiN hi hl => ?_⟩, fun i _ hi => (by simp [Array.getD, hi]), ?_, ?_, ?_, fun i o hi hl => ?_⟩)
 ·have hlt : i < ops.size := (Array.getElem?_eq_some_iff.1 hi).1
  simp [Array.getD, hlt]
 ·intro i o hiN hi hl
  have hlt : i < ops.size := (Array.getElem?_eq_some_iff.1 hi).1
  simp [Array.getD, hlt] at hl
 ·intro t i o hiN hi ht hl
  have hlt : i < ops.size := (Array.getElem?_eq_some_iff.1 hi).1
  simp [Array.getD, hlt] at hl
 ·intro t htm _
  exact hs.fr.val t htm
 ·have hlt : i < ops.size := (Array.getElem?_eq_some_iff.1 hi).1
  simp [Array.getD, hlt] at hl
end Go.RX
