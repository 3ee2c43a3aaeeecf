/- Regions whose order is open, with several new variables that are written once. -/
import Derived.Test.YtogpbandlpjccaaGreatDoorRxD
set_option linter.unusedSimpArgs false
set_option linter.unusedVariables false
namespace Go.RX
open Go.RowKit
inductive SpK where
 | al (t : TypeId)
 | st (t : TypeId) (x : Nat) (y : Operand)
 | bad
 | no
def spK : Op → SpK
 | .alloc t => .al t
 | .store t x y => match x with
  | .tmp x => .st t x y
  | _ => .bad
 | _ => .no
def zblk (P : Program) (t : TypeId) : Option Blk :=
 match pv P (zeroValue t) with
 | some z => (match (cellsOk z && plain z) && z.cells.toList.all plain with
  | true => some (z.cells, t)
  | false => none)
 | none => none
def newPtr (s : Nat) (v : Value) : Option (Nat × Nat) :=
 match v with
 | .pointer (some ⟨b, off, none⟩) => (match Nat.ble s b with
  | true => some (b - s, off)
  | false => none)
 | _ => none
def evDrawB {R : Type} (P : Program) (Φ : Tab) (m n : Nat) (ops : Array Oper) : List Oper → Env → LH → LH → List Bool → (Env → LH → Option R) → Option R
 | [], tm, σ, E, _, K => match E.all fun b => b.1.toList.all plain with
  | true => K tm (σ ++ E)
  | false => none
 | o :: rest, tm, σ, E, fl, K => match spK o.op with
  | .al t => (match o.guard with
   | none => (match zblk P t with
    | some b => (match put n o.dst (.pointer (some ⟨σ.length + E.length, 0, none⟩)) tm with
     | some tm' => evDrawB P Φ m n ops rest tm' σ (E ++ [b]) (fl ++ [false]) K
     | none => none)
    | none => none)
   | some _ => none)
  | .st t x y => (match o.guard with
   | none => (match (has tm x && evOk tm y) && plain (ev tm y) with
    | true => (match newPtr σ.length (look tm x) with
     | some (ρ, off) => (match fl[ρ]? with
      | some false => (match storeL P m t (look tm x) (ev tm y) (σ ++ E) with
       | some σ2 => (match put n o.dst undef tm with
        | some tm' => evDrawB P Φ m n ops rest tm' σ (σ2.drop σ.length) (fl.set ρ true) K
        | none => none)
       | none => none)
      | _ => none)
     | none => none)
    | false => none)
   | some _ => none)
  | .bad => none
  | .no => guardK o ops tm
   (fun tm => match (o.op.operands.toList.all fun x => inn σ.length (ev tm x)) && quiet Φ tm o with
    | true => step P Φ m o tm σ fun v σ' b => match (b && Nat.beq σ'.length σ.length) && inn σ.length v with
     | true => (match put n o.dst v tm with | some tm' => evDrawB P Φ m n ops rest tm' σ E fl K | none => none)
     | false => none
    | false => none)
   (fun tm => match put n o.dst undef tm with | some tm' => evDrawB P Φ m n ops rest tm' σ E fl K | none => none)
theorem storeL_eqv {P : Program} {m : Nat} {t : TypeId} {b off : Nat} {v : Value} {H H1 : LH} (h : storeL P m t (.pointer (some ⟨b, off, none⟩)) v H = some H1) :
  ∃ blk blk1, H[b]? = some blk ∧ H1 = H.set b blk1 ∧ ∀ (H' : LH) (b' : Nat), m ≤ b' → H'[b']? = some blk → storeL P m t (.pointer (some ⟨b', off, none⟩)) v H' = some (H'.set b' blk1) := by
 simp only [storeL] at h
 split at h
 case h_2 => simp at h
 rename_i hok
 split at h
 case h_2 => simp at h
 rename_i c e hb
 split at h
 case h_2 => simp at h
 rename_i k hk
 split at h
 case h_2 => simp at h
 rename_i hsz
 simp only [Option.some.injEq] at h
 refine ⟨(c, e), _, hb, h.symm, fun H' b' hm hb' => ?_⟩
 simp only [Bool.and_eq_true, decide_eq_true_eq] at hok
 have hok' : (decide (m ≤ b') && cellsOk v) = true := by simp [hm, hok.2]
 simp only [storeL, hok', hb', hk, hsz]
structure DidB (P : Program) (Φ : Tab) (m n : Nat) (ops : Array Oper) (σ E : LH) (B0 : Nat → Blk) (rA rS : Nat) (o : Oper) (tm tm' : Env) (v : Value) : Prop where
 put : ∃ tm1, Alike tm1 tm ∧ put n o.dst v tm1 = some tm'
 gd : Guarded o ops tm
 no : spK o.op = .no → (wantB o ops tm = true → ∃ tm1, Alike tm1 tm ∧ (∀ x ∈ o.op.operands, inn σ.length (ev tm1 x) = true) ∧ ∀ (bs : LH) (S : Type) (K : Value → LH → Bool → Option S), step P Φ m o tm1 (σ ++ bs) K = K v (σ ++ bs) true) ∧
  (wantB o ops tm = false → v = undef) ∧ inn σ.length v = true
 al : ∀ t, spK o.op = .al t → o.guard = none ∧ zblk P t = some (B0 rA) ∧ v = .pointer (some ⟨σ.length + rA, 0, none⟩) ∧ rA < E.length
 st : ∀ t x y, spK o.op = .st t x y → o.guard = none ∧ v = undef ∧ has tm x = true ∧ evOk tm y = true ∧ plain (ev tm y) = true ∧ rS < E.length ∧
  ∃ off blk1, look tm x = .pointer (some ⟨σ.length + rS, off, none⟩) ∧ E[rS]? = some blk1 ∧ ∀ (H : LH) (b' : Nat), m ≤ b' → H[b']? = some (B0 rS) → storeL P m t (.pointer (some ⟨b', off, none⟩)) (ev tm y) H = some (H.set b' blk1)
 bad : spK o.op ≠ .bad
theorem newPtr_eq {s : Nat} {v : Value} {ρ off : Nat} (h : newPtr s v = some (ρ, off)) : v = .pointer (some ⟨s + ρ, off, none⟩) := by
 unfold newPtr at h
 split at h
 case h_2 => simp at h
 split at h
 case h_2 => simp at h
 rename_i hb
 have := Nat.le_of_ble_eq_true hb
 simp only [Option.some.injEq, Prod.mk.injEq] at h
 obtain ⟨rfl, rfl⟩ := h
 rw [show s + (_ - s) = _ from Nat.add_sub_cancel' this]
theorem evDrawB_trace {R : Type} {P : Program} {Φ : Tab} {W : World} (hΦ : Φ.Ok P W) {m n : Nat} {ops : Array Oper} {σ : LH} {K : Env → LH → Option R} {r : R} :
  ∀ (l : List Oper) (tm : Env) (E : LH) (fl : List Bool), fl.length = E.length → evDrawB P Φ m n ops l tm σ E fl K = some r →
   ∃ (tms : Nat → Env) (vs : Nat → Value) (E' : LH) (B0 : Nat → Blk) (rA rS : Nat → Nat), tms 0 = tm ∧
    (∀ i o, l[i]? = some o → DidB P Φ m n ops σ E' B0 (rA i) (rS i) o (tms i) (tms (i + 1)) (vs i)) ∧ K (tms l.length) (σ ++ E') = some r ∧
    (∀ b ∈ E', b.1.toList.all plain = true) ∧ E.length ≤ E'.length ∧
    (∀ ρ, ρ < E.length → fl[ρ]? = some false → E[ρ]? = some (B0 ρ)) ∧
    (∀ ρ, ρ < E'.length → fl[ρ]? ≠ some true → (∀ (i : Nat) (o : Oper) t x y, l[i]? = some o → spK o.op = .st t x y → rS i ≠ ρ) → E'[ρ]? = some (B0 ρ)) ∧
    (∀ ρ, ρ < E.length → fl[ρ]? = some true → E'[ρ]? = E[ρ]?) ∧
    (∀ (i : Nat) (o : Oper) t x y, l[i]? = some o → spK o.op = .st t x y → fl[rS i]? ≠ some true) ∧
    (∀ (i j : Nat) (o p : Oper) t t', l[i]? = some o → l[j]? = some p → spK o.op = .al t → spK p.op = .al t' → rA i = rA j → i = j) ∧
    (∀ (i : Nat) (o : Oper) t, l[i]? = some o → spK o.op = .al t → E.length ≤ rA i) ∧
    (∀ ρ, E.length ≤ ρ → ρ < E'.length → ∃ (i : Nat) (o : Oper) (t : TypeId), l[i]? = some o ∧ spK o.op = .al t ∧ rA i = ρ) ∧
    (∀ (i j : Nat) (o p : Oper) t x y t' x' y', l[i]? = some o → l[j]? = some p → spK o.op = .st t x y → spK p.op = .st t' x' y' → rS i = rS j → i = j) := by
 intro l
 induction l with
 | nil =>
  intro tm E fl hfl h
  simp only [evDrawB] at h
  split at h
  case h_2 => simp at h
  rename_i hE
  refine ⟨fun _ => tm, fun _ => undef, E, fun ρ => (E[ρ]?).getD (#[], 0), fun _ => 0, fun _ => 0, rfl, fun i o hi => by simp at hi, h, fun b hb => ?_, Nat.le_refl _, fun ρ hρ _ => by simp [hρ], fun ρ hρ _ _ => by simp [hρ], fun ρ _ _ => rfl, fun i o t x y hi => by simp at hi, fun i j o p t t' hi => by simp at hi, fun i o t hi => by simp at hi, fun ρ h1 h2 => by omega, fun i j o p t x y t' x' y' hi => by simp at hi⟩
  exact (List.all_eq_true.1 hE) b hb
 | cons o rest ih =>
  intro tm E fl hfl h
  rw [evDrawB.eq_def] at h
  simp only [] at h
  cases hk : spK o.op with
  | bad => simp [hk] at h
  | al t =>
   simp only [hk] at h
   cases hg : o.guard with
   | some g => simp [hg] at h
   | none =>
   simp only [hg] at h
   split at h
   case h_2 => simp at h
   rename_i b hb
   split at h
   case h_2 => simp at h
   rename_i tm' htm
   obtain ⟨tms, vs, E', B0, rA, rS, g0, g1, g2, g3, g4, g5, g6, g7, g8, g9, g10, g11, g12⟩ := ih tm' (E ++ [b]) (fl ++ [false]) (by simp [hfl]) h
   have hEl : E.length < E'.length := by simp at g4; omega
   have hB : B0 E.length = b := by
    have := g5 E.length (by simp) (by rw [← hfl]; simp)
    simpa using this.symm
   have flx : ∀ ρ : Nat, (fl ++ [false])[ρ]? = some true ↔ fl[ρ]? = some true := by
    intro ρ
    by_cases hρ : ρ < fl.length
    ·rw [List.getElem?_append_left hρ]
    ·rw [List.getElem?_append_right (by omega), List.getElem?_eq_none (l := fl) (by omega)]
     cases hz : ρ - fl.length with
     | zero => simp
     | succ k => simp
   refine ⟨fun i => match i with | 0 => tm | i + 1 => tms i, fun i => match i with | 0 => .pointer (some ⟨σ.length + E.length, 0, none⟩) | i + 1 => vs i, E', B0, fun i => match i with | 0 => E.length | i + 1 => rA i, fun i => match i with | 0 => 0 | i + 1 => rS i,
    rfl, fun i oi hi => ?_, g2, g3, by omega, fun ρ hρ hf => ?_, fun ρ hρ hf hno => ?_, fun ρ hρ hf => ?_, fun i oi t' x y hi hs => ?_, fun i j oi oj t1 t2 hi hj h1 h2 he => ?_, fun i oi t1 hi h1 => ?_, fun ρ h1 h2 => ?_, fun i j oi oj t1 x1 y1 t2 x2 y2 hi hj h1 h2 he => ?_⟩
   ·cases i with
    | zero =>
     simp only [List.getElem?_cons_zero, Option.some.injEq] at hi
     subst hi
     simp only []
     rw [g0]
     exact ⟨⟨tm, Alike.refl tm, htm⟩, fun j want d hj => (by rw [hg] at hj; cases hj), fun hh => (by rw [hk] at hh; cases hh), fun t' ht' => (by rw [hk] at ht'; cases ht'; exact ⟨hg, by rw [hB]; exact hb, rfl, hEl⟩), fun t' x y hh => (by rw [hk] at hh; cases hh), fun hh => (by rw [hk] at hh; cases hh)⟩
    | succ i => exact g1 i oi (by simpa using hi)
   ·have := g5 ρ (by simp; omega) (by rw [List.getElem?_append_left (by omega)]; exact hf)
    rwa [List.getElem?_append_left hρ] at this
   ·exact g6 ρ hρ (fun hh => hf ((flx ρ).1 hh)) fun i oi t' x y hi hs => hno (i + 1) oi t' x y (by simpa using hi) hs
   ·have := g7 ρ (by simp; omega) ((flx ρ).2 hf)
    rwa [List.getElem?_append_left hρ] at this
   ·cases i with
    | zero =>
     simp only [List.getElem?_cons_zero, Option.some.injEq] at hi
     subst hi
     rw [hk] at hs
     cases hs
    | succ i => exact fun hh => g8 i oi t' x y (by simpa using hi) hs ((flx _).2 hh)
   ·cases i with
    | zero =>
     cases j with
     | zero => rfl
     | succ j =>
      have := g10 j oj t2 (by simpa using hj) h2
      simp at this he
      omega
    | succ i =>
     cases j with
     | zero =>
      have := g10 i oi t1 (by simpa using hi) h1
      simp at this he
      omega
     | succ j => exact congrArg (· + 1) (g9 i j oi oj t1 t2 (by simpa using hi) (by simpa using hj) h1 h2 he)
   ·cases i with
    | zero => exact Nat.le_refl _
    | succ i =>
     have := g10 i oi t1 (by simpa using hi) h1
     simp at this
     simp only []
     omega
   ·by_cases he : ρ = E.length
    ·exact ⟨0, o, t, rfl, hk, he.symm⟩
    ·obtain ⟨i, oi, ti, a1, a2, a3⟩ := g11 ρ (by simp; omega) h2
     exact ⟨i + 1, oi, ti, by simpa using a1, a2, a3⟩
   ·cases i with
    | zero =>
     simp only [List.getElem?_cons_zero, Option.some.injEq] at hi
     subst hi
     rw [hk] at h1
     cases h1
    | succ i =>
     cases j with
     | zero =>
      simp only [List.getElem?_cons_zero, Option.some.injEq] at hj
      subst hj
      rw [hk] at h2
      cases h2
     | succ j => exact congrArg (· + 1) (g12 i j oi oj t1 x1 y1 t2 x2 y2 (by simpa using hi) (by simpa using hj) h1 h2 he)
  | st t x y =>
   simp only [hk] at h
   cases hg : o.guard with
   | some g => simp [hg] at h
   | none =>
   simp only [hg] at h
   split at h
   case h_2 => simp at h
   rename_i hxy
   simp only [Bool.and_eq_true] at hxy
   split at h
   case h_2 => simp at h
   rename_i ρ0 off hnp
   split at h
   case h_2 => simp at h
   rename_i hf0
   split at h
   case h_2 => simp at h
   rename_i σ2 hst
   split at h
   case h_2 => simp at h
   rename_i tm' htm
   have hlk := newPtr_eq hnp
   rw [hlk] at hst
   obtain ⟨blk, blk1, e1, e2, e3⟩ := storeL_eqv hst
   have hρ0 : ρ0 < E.length := by
    have := (List.getElem?_eq_some_iff.1 hf0).1
    omega
   have hblk : E[ρ0]? = some blk := by
    rw [List.getElem?_append_right (by omega)] at e1
    rwa [show σ.length + ρ0 - σ.length = ρ0 by omega] at e1
   have hE2 : σ2.drop σ.length = E.set ρ0 blk1 := by
    rw [e2]
    apply List.ext_getElem?
    intro i
    rw [List.getElem?_drop]
    by_cases hi : i = ρ0
    ·subst hi
     rw [List.getElem?_set_self (by simp; omega), List.getElem?_set_self hρ0]
    ·rw [List.getElem?_set_ne (by omega), List.getElem?_set_ne (Ne.symm hi), List.getElem?_append_right (by omega), show σ.length + i - σ.length = i by omega]
   rw [hE2] at h
   obtain ⟨tms, vs, E', B0, rA, rS, g0, g1, g2, g3, g4, g5, g6, g7, g8, g9, g10, g11, g12⟩ := ih tm' (E.set ρ0 blk1) (fl.set ρ0 true) (by simp [hfl]) h
   simp only [List.length_set] at g4 g5 g7 g10 g11
   have hft : (fl.set ρ0 true)[ρ0]? = some true := by
    rw [List.getElem?_set_self (by omega)]
   have hE'0 : E'[ρ0]? = some blk1 := by
    rw [g7 ρ0 hρ0 hft, List.getElem?_set_self hρ0]
   have hne : ∀ (i : Nat) (oi : Oper) t' x' y', rest[i]? = some oi → spK oi.op = .st t' x' y' → rS i ≠ ρ0 := fun i oi t' x' y' hi hs he => g8 i oi t' x' y' hi hs (by rw [he]; exact hft)
   have flx : ∀ ρ, ρ ≠ ρ0 → (fl.set ρ0 true)[ρ]? = fl[ρ]? := fun ρ hρ => List.getElem?_set_ne (Ne.symm hρ)
   have Ex : ∀ ρ, ρ ≠ ρ0 → (E.set ρ0 blk1)[ρ]? = E[ρ]? := fun ρ hρ => List.getElem?_set_ne (Ne.symm hρ)
   -- what lies in a variable before it is written
   refine ⟨fun i => match i with | 0 => tm | i + 1 => tms i, fun i => match i with | 0 => undef | i + 1 => vs i, E', fun ρ => if ρ = ρ0 then blk else B0 ρ, fun i => match i with | 0 => 0 | i + 1 => rA i, fun i => match i with | 0 => ρ0 | i + 1 => rS i,
    rfl, fun i oi hi => ?_, g2, g3, g4, fun ρ hρ hf => ?_, fun ρ hρ hf hno => ?_, fun ρ hρ hf => ?_, fun i oi t' x' y' hi hs => ?_, fun i j oi oj t1 t2 hi hj h1 h2 he => ?_, fun i oi t1 hi h1 => ?_, fun ρ h1 h2 => ?_, fun i j oi oj t1 x1 y1 t2 x2 y2 hi hj h1 h2 he => ?_⟩
   ·cases i with
    | zero =>
     simp only [List.getElem?_cons_zero, Option.some.injEq] at hi
     subst hi
     simp only []
     rw [g0]
     refine ⟨⟨tm, Alike.refl tm, htm⟩, fun j want d hj => (by rw [hg] at hj; cases hj), fun hh => (by rw [hk] at hh; cases hh), fun t' ht' => (by rw [hk] at ht'; cases ht'), fun t' x' y' hh => ?_, fun hh => (by rw [hk] at hh; cases hh)⟩
     rw [hk] at hh
     cases hh
     refine ⟨hg, rfl, hxy.1.1, hxy.1.2, hxy.2, by omega, off, blk1, hlk, hE'0, ?_⟩
     simp only [if_true]
     exact e3
    | succ i =>
     have hd := g1 i oi (by simpa using hi)
     refine ⟨hd.put, hd.gd, hd.no, fun t' ht' => ?_, fun t' x' y' hs => ?_, hd.bad⟩
     ·have := hd.al t' ht'
      have hne' : rA i ≠ ρ0 := by
       have := g10 i oi t' (by simpa using hi) ht'
       omega
      simp only [if_neg hne']
      exact this
     ·have := hd.st t' x' y' hs
      simp only [if_neg (hne i oi t' x' y' (by simpa using hi) hs)]
      exact this
   ·by_cases he : ρ = ρ0
    ·subst he
     simp only [if_true]
     exact hblk
    ·simp only [if_neg he]
     have := g5 ρ hρ (by rw [flx ρ he]; exact hf)
     rwa [Ex ρ he] at this
   ·by_cases he : ρ = ρ0
    ·subst he
     exact absurd rfl (hno 0 o t x y rfl hk)
    ·simp only [if_neg he]
     exact g6 ρ hρ (by rw [flx ρ he]; exact hf) fun i oi t' x' y' hi hs => hno (i + 1) oi t' x' y' (by simpa using hi) hs
   ·by_cases he : ρ = ρ0
    ·subst he
     rw [hf] at hf0
     cases hf0
    ·rw [g7 ρ hρ (by rw [flx ρ he]; exact hf), Ex ρ he]
   ·cases i with
    | zero => simp only []; rw [hf0]; simp
    | succ i =>
     have := g8 i oi t' x' y' (by simpa using hi) hs
     rwa [flx _ (hne i oi t' x' y' (by simpa using hi) hs)] at this
   ·cases i with
    | zero =>
     simp only [List.getElem?_cons_zero, Option.some.injEq] at hi
     subst hi
     rw [hk] at h1
     cases h1
    | succ i =>
     cases j with
     | zero =>
      simp only [List.getElem?_cons_zero, Option.some.injEq] at hj
      subst hj
      rw [hk] at h2
      cases h2
     | succ j => exact congrArg (· + 1) (g9 i j oi oj t1 t2 (by simpa using hi) (by simpa using hj) h1 h2 he)
   ·cases i with
    | zero =>
     simp only [List.getElem?_cons_zero, Option.some.injEq] at hi
     subst hi
     rw [hk] at h1
     cases h1
    | succ i => exact g10 i oi t1 (by simpa using hi) h1
   ·obtain ⟨i, oi, ti, a1, a2, a3⟩ := g11 ρ h1 h2
    exact ⟨i + 1, oi, ti, by simpa using a1, a2, a3⟩
   ·cases i with
    | zero =>
     cases j with
     | zero => rfl
     | succ j => exact absurd he.symm (hne j oj t2 x2 y2 (by simpa using hj) h2)
    | succ i =>
     cases j with
     | zero => exact absurd he (hne i oi t1 x1 y1 (by simpa using hi) h1)
     | succ j => exact congrArg (· + 1) (g12 i j oi oj t1 x1 y1 t2 x2 y2 (by simpa using hi) (by simpa using hj) h1 h2 he)
  | no =>
   simp only [hk] at h
   obtain ⟨tm1, halk, hgd, hyes, hno⟩ := guardK_eq h
   have key : ∃ v tm', (∀ E' B0 a b, DidB P Φ m n ops σ E' B0 a b o tm tm' v) ∧ evDrawB P Φ m n ops rest tm' σ E fl K = some r := by
    by_cases hw : wantB o ops tm = true
    ·have hy := hyes hw
     split at hy
     case h_2 => simp at hy
     rename_i hq
     simp only [Bool.and_eq_true, List.all_eq_true] at hq
     obtain ⟨v, σ', b, h1, h2⟩ := step_val hΦ hy
     split at h1
     case h_2 => simp at h1
     rename_i hl
     simp only [Bool.and_eq_true] at hl
     split at h1
     case h_2 => simp at h1
     rename_i tm' htm
     obtain ⟨v', hv'⟩ := step_mono hΦ hq.2 hy
     have e1 := hv' [] (Value × LH × Bool) fun v σ' b => some (v, σ', b)
     rw [List.append_nil, h2] at e1
     simp only [Option.some.injEq, Prod.mk.injEq] at e1
     obtain ⟨rfl, _, _⟩ := e1
     exact ⟨v, tm', fun E' B0 a b => ⟨⟨tm1, halk, htm⟩, hgd, fun _ => ⟨fun _ => ⟨tm1, halk, fun x hx => hq.1 x (by simpa using hx), hv'⟩, fun hf => by simp [hw] at hf, hl.2⟩, fun t ht => (by rw [hk] at ht; cases ht), fun t x y hs => (by rw [hk] at hs; cases hs), fun hh => (by rw [hk] at hh; cases hh)⟩, h1⟩
    ·have hw' : wantB o ops tm = false := by simpa using hw
     have h' := hno hw'
     split at h'
     case h_2 => simp at h'
     rename_i tm' htm
     exact ⟨undef, tm', fun E' B0 a b => ⟨⟨tm1, halk, htm⟩, hgd, fun _ => ⟨fun hf => by simp [hw'] at hf, fun _ => rfl, rfl⟩, fun t ht => (by rw [hk] at ht; cases ht), fun t x y hs => (by rw [hk] at hs; cases hs), fun hh => (by rw [hk] at hh; cases hh)⟩, h'⟩
   obtain ⟨v, tm', hd, hr⟩ := key
   obtain ⟨tms, vs, E', B0, rA, rS, g0, g1, g2, g3, g4, g5, g6, g7, g8, g9, g10, g11, g12⟩ := ih tm' E fl hfl hr
   refine ⟨fun i => match i with | 0 => tm | i + 1 => tms i, fun i => match i with | 0 => v | i + 1 => vs i, E', B0, fun i => match i with | 0 => 0 | i + 1 => rA i, fun i => match i with | 0 => 0 | i + 1 => rS i,
    rfl, fun i oi hi => ?_, g2, g3, g4, g5, fun ρ hρ hf hno => g6 ρ hρ hf fun i oi t x y hi hs => hno (i + 1) oi t x y (by simpa using hi) hs, g7, fun i oi t' x' y' hi hs => ?_, fun i j oi oj t1 t2 hi hj h1 h2 he => ?_, fun i oi t1 hi h1 => ?_, fun ρ h1 h2 => ?_, fun i j oi oj t1 x1 y1 t2 x2 y2 hi hj h1 h2 he => ?_⟩
   ·cases i with
    | zero =>
     simp only [List.getElem?_cons_zero, Option.some.injEq] at hi
     subst hi
     simp only []
     rw [g0]
     exact hd _ _ _ _
    | succ i => exact g1 i oi (by simpa using hi)
   ·cases i with
    | zero =>
     simp only [List.getElem?_cons_zero, Option.some.injEq] at hi
     subst hi
     rw [hk] at hs
     cases hs
    | succ i => exact g8 i oi t' x' y' (by simpa using hi) hs
   ·cases i with
    | zero =>
     simp only [List.getElem?_cons_zero, Option.some.injEq] at hi
     subst hi
     rw [hk] at h1
     cases h1
    | succ i =>
     cases j with
     | zero =>
      simp only [List.getElem?_cons_zero, Option.some.injEq] at hj
      subst hj
      rw [hk] at h2
      cases h2
     | succ j => exact congrArg (· + 1) (g9 i j oi oj t1 t2 (by simpa using hi) (by simpa using hj) h1 h2 he)
   ·cases i with
    | zero =>
     simp only [List.getElem?_cons_zero, Option.some.injEq] at hi
     subst hi
     rw [hk] at h1
     cases h1
    | succ i => exact g10 i oi t1 (by simpa using hi) h1
   ·obtain ⟨i, oi, ti, a1, a2, a3⟩ := g11 ρ h1 h2
    exact ⟨i + 1, oi, ti, by simpa using a1, a2, a3⟩
   ·cases i with
    | zero =>
     simp only [List.getElem?_cons_zero, Option.some.injEq] at hi
     subst hi
     rw [hk] at h1
     cases h1
    | succ i =>
     cases j with
     | zero =>
      simp only [List.getElem?_cons_zero, Option.some.injEq] at hj
      subst hj
      rw [hk] at h2
      cases h2
     | succ j => exact congrArg (· + 1) (g12 i j oi oj t1 x1 y1 t2 x2 y2 (by simpa using hi) (by simpa using hj) h1 h2 he)
def bT (s : Nat) (ord : List Nat) (β : Nat → Pl) (j : Nat) : Pl := if j < s then β j else β (s + ord.idxOf (j - s))
theorem bT_old {s : Nat} {ord : List Nat} {β : Nat → Pl} {v : Value} (h : inn s v = true) : rl (bT s ord β) v = rl β v := rl_congr h fun i hi => by simp [bT, hi]
theorem bT_new {s ρ : Nat} {ord : List Nat} {β : Nat → Pl} : rl (bT s ord β) (.pointer (some ⟨s + ρ, 0, none⟩)) = .pointer (some ⟨(β (s + ord.idxOf ρ)).blk, 0, none⟩) := by
 simp only [rl, bT]
 rw [if_neg (by omega), show s + ρ - s = ρ by omega]
 rfl
def okv (s : Nat) (ord : List Nat) (v : Value) : Prop := inn s v = true ∨ ∃ ρ, ρ ∈ ord ∧ v = .pointer (some ⟨s + ρ, 0, none⟩)
theorem okv.congr {s : Nat} {ord : List Nat} {β β' : Nat → Pl} {v : Value} (h : okv s ord v) (hb : ∀ i, i < s + ord.length → β' i = β i) : rl (bT s ord β') v = rl (bT s ord β) v := by
 rcases h with h | ⟨ρ, hρ, rfl⟩
 ·rw [bT_old h, bT_old h]
  exact rl_congr h fun i hi => hb i (by omega)
 ·rw [bT_new, bT_new, hb _ (by have := List.idxOf_lt_length_of_mem hρ; omega)]
theorem okv.snoc {s : Nat} {ord : List Nat} {β : Nat → Pl} {v : Value} {ρ' : Nat} (h : okv s ord v) : rl (bT s (ord ++ [ρ']) β) v = rl (bT s ord β) v := by
 rcases h with h | ⟨ρ, hρ, rfl⟩
 ·rw [bT_old h, bT_old h]
 ·rw [bT_new, bT_new, List.idxOf_append, if_pos hρ]
theorem okv.more {s : Nat} {ord : List Nat} {v : Value} {ρ' : Nat} (h : okv s ord v) : okv s (ord ++ [ρ']) v := by
 rcases h with h | ⟨ρ, hρ, rfl⟩
 ·exact Or.inl h
 ·exact Or.inr ⟨ρ, by simp [hρ], rfl⟩
theorem okv.inn {s k : Nat} {ord : List Nat} {v : Value} (h : okv s ord v) (hk : ∀ ρ, ρ ∈ ord → ρ < k) : RX.inn (s + k) v = true := by
 rcases h with h | ⟨ρ, hρ, rfl⟩
 ·exact inn_mono (by omega) h
 ·have := hk ρ hρ
  simp only [RX.inn, decide_eq_true_eq]
  omega
theorem DidB.has {P : Program} {Φ : Tab} {m n : Nat} {ops : Array Oper} {σ E : LH} {B0 : Nat → Blk} {rA rS : Nat} {o : Oper} {tm tm' : Env} {v : Value} (h : DidB P Φ m n ops σ E B0 rA rS o tm tm' v) {t : Nat} (ht : has tm' t = true) : o.dst = some t ∨ has tm t = true := by
 obtain ⟨tm1, hal, hp⟩ := h.put
 rcases has_put hp ht with h1 | h1
 ·exact Or.inl h1
 ·exact Or.inr (by rw [← hal.2.2 t]; exact h1)
theorem DidB.look {P : Program} {Φ : Tab} {m n : Nat} {ops : Array Oper} {σ E : LH} {B0 : Nat → Blk} {rA rS : Nat} {o : Oper} {tm tm' : Env} {v : Value} (h : DidB P Φ m n ops σ E B0 rA rS o tm tm' v) (t : Nat) :
  (o.dst = some t → look tm' t = v) ∧ (o.dst ≠ some t → look tm' t = look tm t) := by
 obtain ⟨tm1, hal, hp⟩ := h.put
 exact ⟨(look_put hp t).1, fun hne => ((look_put hp t).2 hne).trans (hal.1 t)⟩
set_option maxHeartbeats 4000000 in
theorem evDrawB_run {R : Type} {P : Program} (hm : P.follows .mixedOrders = true) {Φ : Tab} {W : World} (hΦ : Φ.Ok P W) {σ0 σ : LH} {w : World} {β0 β βb : Nat → Pl} {n nb id : Nat} {ops : Array Oper} {tm : Env} {a : Act} {K : Env → LH → Option R} {r : R} {Q : Exit → Act → World → Prop}
  (hd : drawOk ops = true) (hs : St σ0 W β0 n nb βb β tm σ a w) (h : evDrawB P Φ σ0.length n ops (ops.toList.take (preN ops)) tm σ [] [] (fun tm σ => evOps P Φ σ0.length n ops (ops.toList.drop (preN ops)) tm σ K) = some r)
  (hK : ∀ tm' σ' β' a' w', St σ0 W β0 n nb βb β' tm' σ' a' w' → K tm' σ' = some r → Q .normal a' w') : (Code.region id ops true).wp P Q a w := by
 obtain ⟨hpn, fe, fr, fo, ft⟩ := drawOk_facts hd
 obtain ⟨tms, vs, E, B0, rA, rS, h0, htr, hKE, hpl, -, -, hun, -, -, hAi, -, hAo, hSi⟩ := evDrawB_trace hΦ (ops.toList.take (preN ops)) tm [] [] rfl h
 generalize hpdef : preN ops = N at *
 have hlen : (ops.toList.take N).length = N := by simp; omega
 rw [hlen] at hKE
 have tk : ∀ (i : Nat) (o : Oper), i < N → ops[i]? = some o → (ops.toList.take N)[i]? = some o := fun i o hiN hi => by rw [List.getElem?_take_of_lt hiN, Array.getElem?_toList]; exact hi
 have kt : ∀ (i : Nat) (o : Oper), (ops.toList.take N)[i]? = some o → i < N ∧ ops[i]? = some o := fun i o hi => by
  have hiN : i < N := by have := (List.getElem?_eq_some_iff.1 hi).1; omega
  rw [List.getElem?_take_of_lt hiN, Array.getElem?_toList] at hi
  exact ⟨hiN, hi⟩
 have htr' : ∀ (i : Nat) (o : Oper), i < N → ops[i]? = some o → DidB P Φ σ0.length n ops σ E B0 (rA i) (rS i) o (tms i) (tms (i + 1)) (vs i) := fun i o hiN hi => htr i o (tk i o hiN hi)
 -- what no operation from i on to k writes stays
 have stay : ∀ (t i d : Nat), i + d ≤ N → (∀ (k : Nat) (o : Oper), i ≤ k → k < i + d → ops[k]? = some o → o.dst ≠ some t) → look (tms (i + d)) t = look (tms i) t := by
  intro t i d
  induction d with
  | zero => intro _ _; rfl
  | succ d ih =>
   intro hle hno
   have hltN : i + d < N := by omega
   have hlt : i + d < ops.size := by omega
   have ho : ops[i + d]? = some ops[i + d] := Array.getElem?_eq_getElem hlt
   rw [← Nat.add_assoc, ((htr' _ _ hltN ho).look t).2 (hno _ _ (by omega) (by omega) ho)]
   exact ih (by omega) fun k o h1 h2 h3 => hno k o h1 (by omega) h3
 have stayE : ∀ (t i : Nat), i ≤ N → (∀ (k : Nat) (o : Oper), i ≤ k → k < N → ops[k]? = some o → o.dst ≠ some t) → look (tms N) t = look (tms i) t := by
  intro t i hi hno
  have := stay t i (N - i) (by omega) fun k o h1 h2 h3 => hno k o h1 (by omega) h3
  rwa [show i + (N - i) = N by omega] at this
 have valE : ∀ (i : Nat) (o : Oper) (t : Nat), i < N → ops[i]? = some o → o.dst = some t → look (tms N) t = vs i := by
  intro i o t hiN hi ht
  rw [stayE t (i + 1) (by omega) fun k p h1 hk h2 h3 => by have := fo k i p o hk hiN h2 hi t h3 ht; omega]
  exact ((htr' i o hiN hi).look t).1 ht
 have readE : ∀ (j : Nat) (o : Oper) (t : Nat), j < N → ops[j]? = some o → t ∈ reads ops o → look (tms j) t = look (tms N) t := by
  intro j o t hjN hj ht
  exact (stayE t j (by omega) fun k p h1 hk h2 h3 => by have := (fr k j p o hk hjN h2 hj t h3 ht).1; omega).symm
 have freeE : ∀ (t : Nat), (∀ (k : Nat) (o : Oper), k < N → ops[k]? = some o → o.dst ≠ some t) → look (tms N) t = look tm t := by
  intro t hno
  rw [stayE t 0 (by omega) fun k o _ hk h2 => hno k o hk h2, h0]
 have hasE : ∀ (k : Nat), k ≤ N → ∀ t, has (tms k) t = true → (∃ (i : Nat) (o : Oper), i < N ∧ ops[i]? = some o ∧ o.dst = some t) ∨ has tm t = true := by
  intro k
  induction k with
  | zero => intro _ t ht; rw [h0] at ht; exact Or.inr ht
  | succ k ih =>
   intro hk t ht
   have ho : ops[k]? = some ops[k] := Array.getElem?_eq_getElem (by omega)
   rcases (htr' k _ (by omega) ho).has ht with h1 | h1
   ·exact Or.inl ⟨k, _, by omega, ho, h1⟩
   ·exact ih (by omega) t h1
 have hB0p : ∀ (i : Nat) (o : Oper) t, i < N → ops[i]? = some o → spK o.op = .al t → (B0 (rA i)).1.toList.all plain = true := by
  intro i o t hiN hi ht
  have := ((htr' i o hiN hi).al t ht).2.1
  unfold zblk at this
  split at this
  case h_2 => simp at this
  split at this
  case h_2 => simp at this
  rename_i hz
  simp only [Bool.and_eq_true] at hz
  simp only [Option.some.injEq] at this
  rw [← this]
  exact hz.2
 let stored : Array Bool → Nat → Prop := fun L ρ => ∃ (i : Nat) (o : Oper) (t : TypeId) (x : Nat) (y : Operand), i < N ∧ ops[i]? = some o ∧ spK o.op = .st t x y ∧ rS i = ρ ∧ L.getD i false = true
 let cont : Array Bool → Nat → Blk := fun L ρ => @ite _ (stored L ρ) (Classical.propDecidable _) ((E[ρ]?).getD (#[], 0)) (B0 ρ)
 have cont_st : ∀ L ρ, stored L ρ → cont L ρ = (E[ρ]?).getD (#[], 0) := fun L ρ hh => by simp only [cont, if_pos hh]
 have cont_no : ∀ L ρ, ¬ stored L ρ → cont L ρ = B0 ρ := fun L ρ hh => by simp only [cont, if_neg hh]
 -- what the frame shows once the operations of L have come up
 let Inv : Array Bool → Act → World → Prop := fun L a w => a.tmps.size = n ∧ a.defers = [] ∧ ∃ (ord : List Nat) (β' : Nat → Pl), Hp σ0 W β0 β' (σ ++ ord.map (cont L)) w ∧ (∀ i, i < σ.length → β' i = β i) ∧ ord.Nodup ∧
  (∀ ρ, ρ ∈ ord ↔ ∃ (i : Nat) (o : Oper) (t : TypeId), i < N ∧ ops[i]? = some o ∧ spK o.op = .al t ∧ rA i = ρ ∧ L.getD i false = true) ∧
  (∀ (i : Nat) (o : Oper) t x y, i < N → ops[i]? = some o → spK o.op = .st t x y → L.getD i false = true → rS i ∈ ord) ∧
  (∀ i, N ≤ i → i < ops.size → L.getD i false = false) ∧
  (∀ (i : Nat) (o : Oper), i < N → ops[i]? = some o → L.getD i false = true → okv σ.length ord (vs i)) ∧
  (∀ (t i : Nat) (o : Oper), i < N → ops[i]? = some o → o.dst = some t → L.getD i false = true → a.tmps.getD t undef = rl (bT σ.length ord β') (vs i)) ∧
  (∀ t, has tm t = true → (∀ (i : Nat) (o : Oper), i < N → ops[i]? = some o → o.dst = some t → L.getD i false = false) → a.tmps.getD t undef = rl β (look tm t)) ∧
  (∀ (i : Nat) (o : Oper), ops[i]? = some o → L.getD i false = true → ∀ e ∈ o.after, Region.binds .any e = true → L.getD e.on false = true)
 have main : ∀ (fuel : Nat) (L : Array Bool) (a : Act) (w : World), L.size = ops.size → L.toList.count false ≤ fuel → Inv L a w → wpAny P .any ops Q fuel L a w := by
  have done : ∀ (fuel : Nat) (L : Array Bool) (a : Act) (w : World), L.size = ops.size → L.toList.count false ≤ fuel → (∀ i, i < N → L.getD i false = true) → Inv L a w → wpAny P .any ops Q fuel L a w := by
   intro fuel L a w hL hc hall ⟨i1, i2, ord, β', i3, ib, ind, ior, ist, i0, i4, i5, i6, _⟩
   have hfuel : ops.size - N ≤ fuel := by
    have h1 : L.toList.drop N = List.replicate (ops.size - N) false := by
     apply List.ext_getElem
     ·simp [hL]
     ·intro i h2 h3
      simp only [List.length_replicate] at h3
      have := i0 (N + i) (by omega) (by omega)
      have hlt : N + i < L.size := by omega
      simp only [List.getElem_drop, List.getElem_replicate, Array.getElem_toList]
      simpa [Array.getD, hlt] using this
    have h2 : (L.toList.drop N).count false ≤ L.toList.count false := (List.drop_sublist N L.toList).count_le false
    rw [h1, List.count_replicate_self] at h2
    omega
   -- all the new variables are there, each with its content
   have inord : ∀ ρ, ρ < E.length → ρ ∈ ord := fun ρ hρ => by
    obtain ⟨i, o, t, e1, e2, e3⟩ := hAo ρ (by simp) hρ
    obtain ⟨hiN, hi⟩ := kt i o e1
    exact (ior ρ).2 ⟨i, o, t, hiN, hi, e2, e3, hall i hiN⟩
   have ordlt : ∀ ρ, ρ ∈ ord → ρ < E.length := fun ρ hρ => by
    obtain ⟨i, o, t, hiN, hi, e2, rfl, _⟩ := (ior ρ).1 hρ
    exact ((htr' i o hiN hi).al t e2).2.2.2
   have contE : ∀ ρ, ρ < E.length → E[ρ]? = some (cont L ρ) := fun ρ hρ => by
    by_cases hst : stored L ρ
    ·rw [cont_st L ρ hst, List.getElem?_eq_getElem hρ]
     rfl
    ·rw [cont_no L ρ hst]
     refine hun ρ hρ (by simp) fun i o t x y hi he hr => hst ?_
     obtain ⟨hiN, hi'⟩ := kt i o hi
     exact ⟨i, o, t, x, y, hiN, hi', he, hr, hall i hiN⟩
   have place : ∀ ρ, ρ < E.length → ord.idxOf ρ < ord.length ∧ (σ ++ ord.map (cont L))[σ.length + ord.idxOf ρ]? = some (cont L ρ) := fun ρ hρ => by
    have hlt := List.idxOf_lt_length_of_mem (inord ρ hρ)
    refine ⟨hlt, ?_⟩
    rw [List.getElem?_append_right (by omega), show σ.length + ord.idxOf ρ - σ.length = ord.idxOf ρ by omega, List.getElem?_map, List.getElem?_eq_getElem hlt, List.getElem_idxOf hlt]
    rfl
   have inj' : ∀ ρ ρ', ρ < E.length → ρ' < E.length → ord.idxOf ρ = ord.idxOf ρ' → ρ = ρ' := fun ρ ρ' h1 h2 he => by
    have hl1 := List.idxOf_lt_length_of_mem (inord ρ h1)
    have e1 := List.getElem_idxOf hl1
    have hl2 := List.idxOf_lt_length_of_mem (inord ρ' h2)
    have e2 := List.getElem_idxOf hl2
    rw [← e1, ← e2]
    congr 1
   have hHp : Hp σ0 W β0 (bT σ.length ord β') (σ ++ E) w := by
    have hmle := hs.hp.mle
    have old : ∀ j, j < σ.length → (σ ++ E)[j]? = σ[j]? ∧ (σ ++ ord.map (cont L))[j]? = σ[j]? := fun j hj => ⟨List.getElem?_append_left hj, List.getElem?_append_left hj⟩
    have new : ∀ j, ¬ j < σ.length → j < (σ ++ E).length → j - σ.length < E.length ∧ (σ ++ E)[j]? = E[j - σ.length]? := fun j hj hj2 => ⟨by simp at hj2; omega, List.getElem?_append_right (by omega)⟩
    have ridx : ∀ j, j < (σ ++ E).length → ∃ k, k < (σ ++ ord.map (cont L)).length ∧ bT σ.length ord β' j = β' k ∧ (j < σ.length → k = j) ∧ (¬ j < σ.length → k = σ.length + ord.idxOf (j - σ.length)) ∧ (σ ++ E)[j]? = (σ ++ ord.map (cont L))[k]? := fun j hj => by
     by_cases hlt : j < σ.length
     ·exact ⟨j, by simp; omega, by simp [bT, hlt], fun _ => rfl, fun hh => absurd hlt hh, by rw [(old j hlt).1, (old j hlt).2]⟩
     ·have hp := (place _ (new j hlt hj).1).1
      exact ⟨σ.length + ord.idxOf (j - σ.length), by simp; exact hp, by simp [bT, hlt], fun hh => absurd hh hlt, fun _ => rfl, by rw [(new j hlt hj).2, contE _ (new j hlt hj).1, (place _ (new j hlt hj).1).2]⟩
    refine ⟨⟨fun j c t hj hn => ?_, fun j c t hj hn v hv => ?_, fun j rows g z t hj => ?_⟩, by simp; omega, fun i hi => ?_, fun i hi => ?_, i3.low, fun i hi hi2 => ?_, fun i j hi hij hj li lj => ?_, fun i hi2 => ?_, i3.below⟩
    ·have hjl := (List.getElem?_eq_some_iff.1 hj).1
     by_cases hlt : j < σ.length
     ·rw [(old j hlt).1] at hj
      obtain ⟨kk, q1, q2⟩ := i3.lies.blk j c t (by rw [(old j hlt).2]; exact hj) hn
      have e : bT σ.length ord β' j = β' j := by simp [bT, hlt]
      rw [e]
      refine ⟨kk, q1, ?_⟩
      rw [q2]
      congr 2
      apply Array.ext'
      simp only [Array.toList_map]
      exact List.map_congr_left fun v hv => (bT_old (hs.hp.lies.sc j c t hj hn v hv).1).symm
     ·obtain ⟨n1, n2⟩ := new j hlt hjl
      rw [n2] at hj
      have hce := contE _ n1
      rw [hj] at hce
      simp only [Option.some.injEq] at hce
      obtain ⟨kk, q1, q2⟩ := i3.lies.blk _ c t (by rw [(place _ n1).2, hce]) hn
      have e : bT σ.length ord β' j = β' (σ.length + ord.idxOf (j - σ.length)) := by simp [bT, hlt]
      rw [e]
      refine ⟨kk, q1, ?_⟩
      rw [q2]
      have hcp := hpl (c, t) (List.mem_of_getElem? hj)
      simp only [List.all_eq_true] at hcp
      congr 2
      apply Array.ext'
      simp only [Array.toList_map]
      exact List.map_congr_left fun v hv => by rw [rl_plain (hcp v hv), rl_plain (hcp v hv)]
    ·have hjl := (List.getElem?_eq_some_iff.1 hj).1
     by_cases hlt : j < σ.length
     ·rw [(old j hlt).1] at hj
      have := hs.hp.lies.sc j c t hj hn v hv
      exact ⟨inn_mono (by simp) this.1, this.2⟩
     ·obtain ⟨n1, n2⟩ := new j hlt hjl
      rw [n2] at hj
      have hce := contE _ n1
      rw [hj] at hce
      simp only [Option.some.injEq] at hce
      have hcp := hpl (c, t) (List.mem_of_getElem? hj)
      simp only [List.all_eq_true] at hcp
      exact ⟨plain_inn (hcp v hv), (i3.lies.sc _ c t (by rw [(place _ n1).2, hce]) hn v hv).2⟩
    ·obtain ⟨k, k1, k2, k3, k4, k5⟩ := ridx j (List.getElem?_eq_some_iff.1 hj).1
     rw [k2]
     exact i3.lies.lst k rows g z t (by rw [← k5]; exact hj)
    ·rw [(old i (by omega)).1]
     exact hs.hp.pre i hi
    ·have e : bT σ.length ord β' i = β' i := by simp [bT, show i < σ.length by omega]
     rw [e]
     exact i3.ext i hi
    ·obtain ⟨k, k1, k2, k3, k4, k5⟩ := ridx i hi2
     rw [k2]
     refine i3.own k ?_ k1
     by_cases hlt : i < σ.length
     ·rw [k3 hlt]; exact hi
     ·rw [k4 hlt]; omega
    ·obtain ⟨k, k1, k2, k3, k4, k5⟩ := ridx i (by omega)
     obtain ⟨k', k1', k2', k3', k4', k5'⟩ := ridx j hj
     have lk : live (σ ++ ord.map (cont L)) k := fun t he => li t (by rw [k5]; exact he)
     have lk' : live (σ ++ ord.map (cont L)) k' := fun t he => lj t (by rw [k5']; exact he)
     rw [k2, k2']
     have hkm : σ0.length ≤ k := by
      by_cases hlt : i < σ.length
      ·rw [k3 hlt]; exact hi
      ·rw [k4 hlt]; omega
     have hkm' : σ0.length ≤ k' := by
      by_cases hlt : j < σ.length
      ·rw [k3' hlt]; omega
      ·rw [k4' hlt]; omega
     have hne : k ≠ k' := by
      by_cases hlt : i < σ.length
      ·rw [k3 hlt]
       by_cases hlt' : j < σ.length
       ·rw [k3' hlt']; omega
       ·rw [k4' hlt']; omega
      ·rw [k4 hlt]
       have hlt' : ¬ j < σ.length := by omega
       rw [k4' hlt']
       intro he
       have := inj' _ _ (new i hlt (by omega)).1 (new j hlt' hj).1 (by omega)
       omega
     rcases Nat.lt_or_gt_of_ne hne with hl | hl
     ·exact i3.inj k k' hkm hl k1' lk lk'
     ·exact fun q hq he => i3.inj k' k hkm' hl k1 lk' lk q he hq
    ·obtain ⟨k, k1, k2, k3, k4, k5⟩ := ridx i hi2
     rw [k2]
     exact i3.up k k1
   refine evTail_run hΦ (p := N) fe ft hK _ N fuel L (tms N) (σ ++ E) (bT σ.length ord β') a w rfl (Nat.le_refl _) hL (fun i hi _ => hall i hi) (fun i hi hi' => i0 i hi hi') hfuel ⟨⟨i1, fun t hht => ?_, i2⟩, ?_, hHp, by have := hs.nle; simp; omega, fun i hi => by have := hs.nle; simp only [bT, if_pos (show i < σ.length by omega)]; rw [ib i (by omega)]; exact hs.bext i hi⟩ hKE
   ·by_cases hw : ∃ (i : Nat) (o : Oper), i < N ∧ ops[i]? = some o ∧ o.dst = some t
    ·obtain ⟨i, o, hiN, hi, ht⟩ := hw
     rw [i5 t i o hiN hi ht (hall i hiN), valE i o t hiN hi ht]
    ·have hno : ∀ (i : Nat) (o : Oper), i < N → ops[i]? = some o → o.dst ≠ some t := fun i o hiN hi ht => hw ⟨i, o, hiN, hi, ht⟩
     have htm : has tm t = true := (hasE N (Nat.le_refl _) t hht).resolve_left fun ⟨i, o, hiN, hi, ht⟩ => hno i o hiN hi ht
     rw [i6 t htm fun i o hiN hi ht => absurd ht (hno i o hiN hi), freeE t hno, bT_old (look_inn hs.env t)]
     exact (rl_congr (look_inn hs.env t) ib).symm
   ·have : ∀ k, k ≤ N → ∀ p ∈ tms k, inn (σ ++ E).length p.2 = true := by
     intro k
     induction k with
     | zero => intro _ p hp'; rw [h0] at hp'; exact inn_mono (by simp) (hs.env p hp')
     | succ k ih =>
      intro hk
      have ho : ops[k]? = some ops[k] := Array.getElem?_eq_getElem (by omega)
      obtain ⟨tm1, hal, hput⟩ := (htr' k _ (by omega) ho).put
      refine put_inn (hal.inn (ih (by omega))) ?_ hput
      rw [List.length_append]
      exact (i4 k _ (by omega) ho (hall k (by omega))).inn ordlt
    exact this N (Nat.le_refl _)
  have allOf : ∀ (L : Array Bool), L.size = ops.size → Region.ready .any ops L = [] → ∀ i, i < ops.size → L.getD i false = true := by
   intro L hL hr i
   induction i using Nat.strongRecOn with
   | _ i ih =>
    intro hi
    rcases hb : L.getD i false with _ | _
    ·exfalso
     have ho : ops[i]? = some ops[i] := Array.getElem?_eq_getElem hi
     have : i ∈ Region.ready .any ops L := mem_ready.2 ⟨by simpa [Array.getD, hL, hi] using hb, ops[i], ho, fun e he hbd => ih e.on (fe i _ ho e he hbd) (by have := fe i _ ho e he hbd; omega)⟩
     rw [hr] at this
     cases this
    ·rfl
  intro fuel
  induction fuel with
  | zero =>
   intro L a w hL hc hi
   have hall : ∀ i, i < ops.size → L.getD i false = true := by
    intro i hlt
    have h1 : ¬ false ∈ L.toList := by
     intro hm
     have := List.count_pos_iff.2 hm
     omega
    rcases hb : L.getD i false with _ | _
    ·exfalso
     apply h1
     have : L[i]'(by omega) = false := by simpa [Array.getD, hL, hlt] using hb
     rw [← this]
     simp
    ·rfl
   exact done 0 L a w hL hc (fun i hi' => hall i (by omega)) hi
  | succ fuel ih =>
   intro L a w hL hc hi
   by_cases hall : ∀ i, i < N → L.getD i false = true
   ·exact done (fuel + 1) L a w hL hc hall hi
   refine ⟨fun hr => absurd (fun i hiN => allOf L hL hr i (by omega)) hall, fun j hj => ?_⟩
   obtain ⟨hun, o, ho, hedges⟩ := mem_ready.1 hj
   have hjN : j < N := by
    apply Nat.lt_of_not_le
    intro hle
    refine hall fun i hiN => ?_
    obtain ⟨_, _, _, _, _, _, _, _, _, _, _, _, _, iC⟩ := hi
    exact reached iC 6 o i hedges (ft j o hle ho i (by omega))
   have hlt : j < ops.size := (Array.getElem?_eq_some_iff.1 ho).1
   have hLj : L[j]'(by omega) = false := by simpa [Array.getD, hL, hlt] using hun
   obtain ⟨i1, i2, ord, β', i3, ib, ind, ior, ist, i0, i4, i5, i6, iC⟩ := hi
   have hD := htr' j o hjN ho
   -- what the operation reads is there
   have hread : ∀ t ∈ reads ops o, has (tms j) t = true → a.tmps.getD t undef = rl (bT σ.length ord β') (look (tms j) t) ∧ okv σ.length ord (look (tms j) t) := by
    intro t ht hht
    rw [readE j o t hjN ho ht]
    by_cases hw : ∃ (i : Nat) (p : Oper), i < N ∧ ops[i]? = some p ∧ p.dst = some t
    ·obtain ⟨i, p, hiN, hip, hpt⟩ := hw
     obtain ⟨hij, e, he, heq, hb⟩ := fr i j p o hiN hjN hip ho t hpt ht
     have hli : L.getD i false = true := by rw [← heq]; exact hedges e he hb
     rw [valE i p t hiN hip hpt]
     exact ⟨i5 t i p hiN hip hpt hli, i4 i p hiN hip hli⟩
    ·have hno : ∀ (i : Nat) (p : Oper), i < N → ops[i]? = some p → p.dst ≠ some t := fun i p hiN hip hpt => hw ⟨i, p, hiN, hip, hpt⟩
     rw [freeE t hno]
     have htm : has tm t = true := (hasE j (by omega) t hht).resolve_left fun ⟨i, o, hiN, hi, ht⟩ => hno i o hiN hi ht
     have hin := look_inn hs.env t
     exact ⟨by rw [bT_old hin, rl_congr hin ib]; exact i6 t htm fun i p hiN hip hpt => absurd hpt (hno i p hiN hip), Or.inl hin⟩
   have hwant : Region.wanted o (yielded ops a.tmps) = wantB o ops (tms j) := wanted_of (β := bT σ.length ord β') i1 fun g want d hg hgd => (hread d (by
    unfold reads
    rw [List.mem_append]
    right
    rw [hg]
    simp only []
    rw [hgd]
    simp) (hD.gd g want d hg hgd)).1
   have hop : ∀ t, Operand.tmp t ∈ o.op.operands → t ∈ reads ops o := by
    intro t ht
    unfold reads
    rw [List.mem_append]
    left
    rw [List.mem_filterMap]
    exact ⟨.tmp t, by simpa using ht, rfl⟩
   have hset : ∀ i, (L.setIfInBounds j true).getD i false = if i = j then true else L.getD i false := by
    intro i
    by_cases hij : i = j
    ·subst hij; simp [Array.getD, hL, hlt]
    ·simp only [hij, if_false]; exact getD_set_ne false (Ne.symm hij)
   have storedL : ∀ ρ, stored (L.setIfInBounds j true) ρ ↔ stored L ρ ∨ ∃ t x y, spK o.op = .st t x y ∧ rS j = ρ := fun ρ => by
    constructor
    ·rintro ⟨i, p, t, x, y, hiN, hip, hk, hr, hl⟩
     rw [hset] at hl
     by_cases hij : i = j
     ·subst hij
      rw [ho] at hip
      simp only [Option.some.injEq] at hip
      subst hip
      exact Or.inr ⟨t, x, y, hk, hr⟩
     ·simp only [hij, if_false] at hl
      exact Or.inl ⟨i, p, t, x, y, hiN, hip, hk, hr, hl⟩
    ·rintro (⟨i, p, t, x, y, hiN, hip, hk, hr, hl⟩ | ⟨t, x, y, hk, hr⟩)
     ·exact ⟨i, p, t, x, y, hiN, hip, hk, hr, by rw [hset]; split; rfl; exact hl⟩
     ·exact ⟨j, o, t, x, y, hjN, ho, hk, hr, by rw [hset, if_pos rfl]⟩
   have contS : ∀ ρ, (∀ t x y, spK o.op = .st t x y → rS j ≠ ρ) → cont (L.setIfInBounds j true) ρ = cont L ρ := fun ρ hne => by
    by_cases hst : stored L ρ
    ·rw [cont_st L ρ hst, cont_st _ ρ ((storedL ρ).2 (Or.inl hst))]
    ·rw [cont_no L ρ hst, cont_no _ ρ fun hh => ?_]
     rcases (storedL ρ).1 hh with h1 | ⟨t, x, y, h1, h2⟩
     ·exact hst h1
     ·exact hne t x y h1 h2
   -- the invariant behind it
   have next : ∀ (w' : World) (ord' : List Nat) (β'' : Nat → Pl), Hp σ0 W β0 β'' (σ ++ ord'.map (cont (L.setIfInBounds j true))) w' → (∀ i, i < σ.length → β'' i = β i) → ord'.Nodup →
     (∀ ρ, ρ ∈ ord' ↔ ρ ∈ ord ∨ ∃ t, spK o.op = .al t ∧ rA j = ρ) → (∀ t x y, spK o.op = .st t x y → rS j ∈ ord) →
     (∀ v, okv σ.length ord v → okv σ.length ord' v ∧ rl (bT σ.length ord' β'') v = rl (bT σ.length ord β') v) → okv σ.length ord' (vs j) →
     wpAny P .any ops Q fuel (L.setIfInBounds j true) (a.put o.dst (rl (bT σ.length ord' β'') (vs j))) w' := by
    intro w' ord' β'' hp1 hb1 hnd hmem hstj hok hvj
    refine ih _ _ w' (by simpa using hL) ?_ ⟨?_, ?_, ord', β'', hp1, hb1, hnd, fun ρ => ?_, fun i p t x y hiN hip hk hl => ?_, fun i hi hi' => by rw [hset, if_neg (by omega)]; exact i0 i hi hi', ?_, ?_, ?_, fun i p hip hl e he hb => ?_⟩
    ·have hjl : j < L.toList.length := by simp; omega
     have hcs := List.count_set (l := L.toList) (i := j) (a := true) (b := false) hjl
     have hpos : 0 < L.toList.count false := List.count_pos_iff.2 (by rw [← hLj]; simp)
     have hgj : L.toList[j] = false := by simpa using hLj
     have htf : (true == false) = false := rfl
     rw [Array.toList_setIfInBounds, hcs, hgj]
     simp only [beq_self_eq_true, if_true, htf, Bool.false_eq_true, if_false]
     omega
    ·cases hdo : o.dst <;> simp [Act.put, i1]
    ·cases hdo : o.dst <;> simp [Act.put, i2]
    ·rw [hmem, ior]
     constructor
     ·rintro (⟨i, p, t, hiN, hip, hk, hr, hl⟩ | ⟨t, hk, hr⟩)
      ·exact ⟨i, p, t, hiN, hip, hk, hr, by rw [hset]; split; rfl; exact hl⟩
      ·exact ⟨j, o, t, hjN, ho, hk, hr, by rw [hset, if_pos rfl]⟩
     ·rintro ⟨i, p, t, hiN, hip, hk, hr, hl⟩
      rw [hset] at hl
      by_cases hij : i = j
      ·subst hij
       rw [ho] at hip
       simp only [Option.some.injEq] at hip
       subst hip
       exact Or.inr ⟨t, hk, hr⟩
      ·simp only [hij, if_false] at hl
       exact Or.inl ⟨i, p, t, hiN, hip, hk, hr, hl⟩
    ·rw [hset] at hl
     rw [hmem]
     by_cases hij : i = j
     ·subst hij
      rw [ho] at hip
      simp only [Option.some.injEq] at hip
      subst hip
      exact Or.inl (hstj t x y hk)
     ·simp only [hij, if_false] at hl
      exact Or.inl (ist i p t x y hiN hip hk hl)
    ·intro i p hiN hip hl
     rw [hset] at hl
     by_cases hij : i = j
     ·subst hij; exact hvj
     ·simp only [hij, if_false] at hl; exact (hok _ (i4 i p hiN hip hl)).1
    ·intro t i p hiN hip hpt hl
     rw [hset] at hl
     by_cases hij : i = j
     ·subst hij
      rw [ho] at hip
      simp only [Option.some.injEq] at hip
      subst hip
      have hbound : t < n := by
       obtain ⟨tm1, hal, this⟩ := hD.put
       rw [hpt] at this
       simp only [put] at this
       split at this
       ·rename_i hble; exact Nat.le_of_ble_eq_true hble
       ·simp at this
      simp [Act.put, hpt, Array.getD, i1, hbound]
     ·simp only [hij, if_false] at hl
      have hne : o.dst ≠ some t := fun hot => hij (fo i j p o hiN hjN hip ho t hpt hot)
      rw [(hok _ (i4 i p hiN hip hl)).2, ← i5 t i p hiN hip hpt hl]
      cases hdo : o.dst with
      | none => rfl
      | some d =>
       have hdt : d ≠ t := fun e => hne (by rw [hdo, e])
       simp only [Act.put, Array.getD_eq_getD_getElem?, Array.getElem?_setIfInBounds_ne hdt]
    ·intro t htm hno
     have hne : o.dst ≠ some t := fun hot => by
      have := hno j o hjN ho hot
      rw [hset] at this
      simp at this
     have : a.tmps.getD t undef = rl β (look tm t) := i6 t htm fun i p hiN hip hpt => by
      have := hno i p hiN hip hpt
      rw [hset] at this
      split at this
      ·cases this
      ·exact this
     rw [← this]
     cases hdo : o.dst with
     | none => rfl
     | some d =>
      have hdt : d ≠ t := fun e => hne (by rw [hdo, e])
      simp only [Act.put, Array.getD_eq_getD_getElem?, Array.getElem?_setIfInBounds_ne hdt]
    ·rw [hset] at hl ⊢
     by_cases hej : e.on = j
     ·rw [if_pos hej]
     ·rw [if_neg hej]
      by_cases hij : i = j
      ·subst hij
       rw [ho] at hip
       simp only [Option.some.injEq] at hip
       subst hip
       exact hedges e he hb
      ·rw [if_neg hij] at hl
       exact iC i p hip hl e he hb
   have hlen2 : (σ ++ ord.map (cont L)).length = σ.length + ord.length := by simp
   -- an operation that writes nothing leaves all as it was
   have keep : ∀ (β'' : Nat → Pl), (∀ i, i < (σ ++ ord.map (cont L)).length → β'' i = β' i) → (∀ v, okv σ.length ord v → okv σ.length ord v ∧ rl (bT σ.length ord β'') v = rl (bT σ.length ord β') v) ∧ (∀ i, i < σ.length → β'' i = β i) := fun β'' hb =>
    ⟨fun v hv => ⟨hv, hv.congr fun i hi => hb i (by omega)⟩, fun i hi => by rw [hb i (by omega), ib i hi]⟩
   unfold wpOp
   simp only [ho, hwant]
   cases hk : spK o.op with
   | bad => exact absurd hk hD.bad
   | no =>
    have hcont : ∀ ρ, cont (L.setIfInBounds j true) ρ = cont L ρ := fun ρ => contS ρ fun t x y hh => by rw [hk] at hh; cases hh
    have hmap : σ ++ ord.map (cont (L.setIfInBounds j true)) = σ ++ ord.map (cont L) := by rw [List.map_congr_left fun ρ _ => hcont ρ]
    have hmem : ∀ ρ, ρ ∈ ord ↔ ρ ∈ ord ∨ ∃ t, SpK.no = SpK.al t ∧ rA j = ρ := fun ρ => ⟨Or.inl, fun hh => hh.resolve_right fun ⟨t, h1, _⟩ => by cases h1⟩
    have hns : ∀ t x y, SpK.no = SpK.st t x y → rS j ∈ ord := fun t x y hh => by cases hh
    rw [hk] at next
    obtain ⟨hy, hn, hvi⟩ := hD.no hk
    rcases hwb : wantB o ops (tms j) with _ | _
    ·simp only [Bool.false_eq_true, if_false]
     have hu := hn hwb
     obtain ⟨k1, k2⟩ := keep β' fun _ _ => rfl
     have := next w ord β' (by rw [hmap]; exact i3) k2 ind hmem hns k1 (Or.inl hvi)
     rw [hu] at this
     rw [rl_undef] at this
     exact this
    ·simp only [if_true]
     obtain ⟨tm1, halk, hin, hst⟩ := hy hwb
     refine Or.inl (step_run (n := n) (β := β') hΦ (K := fun v σ' b => some (v, σ', b)) (r := (vs j, σ ++ ord.map (cont L), true)) (tm := tm1) ?_ (fun x hx _ => inn_mono (by omega) (hin x hx)) i3 (hst _ _ _) ?_)
     ·intro x hx hok
      have hix := hin x hx
      rw [halk.ev] at hix ⊢
      rw [halk.ok] at hok
      cases x with
      | tmp t =>
       have := (hread t (hop t hx) hok).1
       simp only [ev] at hix
       rw [bT_old hix] at this
       exact this
      | const v => simp only [Act.eval, ev]; exact (rl_plain hok).symm
      | global g => simp [evOk] at hok
      | func f => simp [Act.eval, ev, rl]
     ·intro v σ1 kept β'' w' hb hle hpre hv hp' hkk
      simp only [Option.some.injEq, Prod.mk.injEq] at hkk
      obtain ⟨rfl, rfl, rfl⟩ := hkk
      obtain ⟨k1, k2⟩ := keep β'' hb
      have := next w' ord β'' (by rw [hmap]; exact hp') k2 ind hmem hns k1 (Or.inl hvi)
      rw [bT_old hvi] at this
      exact this
   | al t =>
    obtain ⟨hg, hz, hv, hrl⟩ := hD.al t hk
    have hwb : wantB o ops (tms j) = true := by unfold wantB; rw [hg]
    have hLjf : L.getD j false ≠ true := by simp [Array.getD, hL, hlt, hLj]
    have hnord : rA j ∉ ord := fun hm => by
     obtain ⟨i, p, t', hiN, hip, hk', hr, hl⟩ := (ior _).1 hm
     have := hAi i j p o t' t (tk i p hiN hip) (tk j o hjN ho) hk' hk hr
     subst this
     exact hLjf hl
    have hnst : ¬ stored L (rA j) := fun ⟨i, p, t', x, y, hiN, hip, hk', hr, hl⟩ => hnord (by rw [← hr]; exact ist i p t' x y hiN hip hk' hl)
    have hcont : ∀ ρ, cont (L.setIfInBounds j true) ρ = cont L ρ := fun ρ => contS ρ fun t x y hh => by rw [hk] at hh; cases hh
    have hmap : σ ++ (ord ++ [rA j]).map (cont (L.setIfInBounds j true)) = (σ ++ ord.map (cont L)) ++ [B0 (rA j)] := by
     rw [List.map_congr_left fun ρ _ => hcont ρ]
     simp only [List.map_append, List.map_cons, List.map_nil, List.append_assoc]
     rw [cont_no L _ hnst]
    simp only [hwb, if_true]
    have hst : step P Φ σ0.length o (tms j) (σ ++ ord.map (cont L)) (fun v σ' b => some (v, σ', b)) = some (Value.pointer (some ⟨(σ ++ ord.map (cont L)).length, 0, none⟩), (σ ++ ord.map (cont L)) ++ [B0 (rA j)], true) := by
     cases hop' : o.op with
     | alloc t' =>
      rw [hop'] at hk
      simp only [spK, SpK.al.injEq] at hk
      subst hk
      unfold zblk at hz
      split at hz
      case h_2 => simp at hz
      rename_i z hzv
      split at hz
      case h_2 => simp at hz
      rename_i hcz
      simp only [Bool.and_eq_true] at hcz
      simp only [Option.some.injEq] at hz
      rw [← hz]
      have hcz' : (cellsOk z && plain z) = true := by simp [hcz.1.1, hcz.1.2]
      unfold step
      simp only [hop', hzv, hcz']
      rfl
     | store t' x y => rw [hop'] at hk; cases x <;> simp [spK] at hk
     | _ => rw [hop'] at hk; simp [spK] at hk
    refine Or.inl (step_run (n := n) (β := β') hΦ (K := fun v σ' b => some (v, σ', b)) (r := (Value.pointer (some ⟨(σ ++ ord.map (cont L)).length, 0, none⟩), (σ ++ ord.map (cont L)) ++ [B0 (rA j)], true)) (tm := tms j) ?_ ?_ i3 hst ?_)
    ·intro x hx
     cases hop' : o.op with
     | alloc t' => rw [hop'] at hx; simp [Op.operands] at hx
     | store t' x y => rw [hop'] at hk; cases x <;> simp [spK] at hk
     | _ => rw [hop'] at hk; simp [spK] at hk
    ·intro x hx
     cases hop' : o.op with
     | alloc t' => rw [hop'] at hx; simp [Op.operands] at hx
     | store t' x y => rw [hop'] at hk; cases x <;> simp [spK] at hk
     | _ => rw [hop'] at hk; simp [spK] at hk
    ·intro v σ1 kept β'' w' hb hle hpre hv1 hp' hkk
     simp only [Option.some.injEq, Prod.mk.injEq] at hkk
     obtain ⟨rfl, rfl, rfl⟩ := hkk
     obtain ⟨k1, k2⟩ := keep β'' hb
     rw [hk] at next
     have := next w' (ord ++ [rA j]) β'' (by rw [hmap]; exact hp') k2 (List.nodup_append.2 ⟨ind, by simp, fun a ha b hb he => hnord (by simp at hb; rw [← hb, ← he]; exact ha)⟩)
      (fun ρ => by simp only [List.mem_append, List.mem_singleton, SpK.al.injEq]; exact ⟨fun hh => hh.imp (fun z => z) fun he => ⟨t, rfl, he.symm⟩, fun hh => hh.imp (fun z => z) fun ⟨t', h1, h2⟩ => h2.symm⟩)
      (fun t x y hh => by cases hh) (fun v hv => ⟨hv.more, hv.snoc.trans (k1 v hv).2⟩) (by rw [hv]; exact Or.inr ⟨rA j, by simp, rfl⟩)
     rw [hv, bT_new, List.idxOf_append, if_neg hnord] at this
     have e : List.idxOf (rA j) [rA j] + ord.length = ord.length := by simp
     rw [e] at this
     simp only [rl, hlen2]
     exact this
   | st t x y =>
    obtain ⟨hg, hv, hhx, hoy, hpy, hrl, off, blk1, hlx, hE1, hsto⟩ := hD.st t x y hk
    have hwb : wantB o ops (tms j) = true := by unfold wantB; rw [hg]
    simp only [hwb, if_true]
    obtain ⟨hop', hxr⟩ : o.op = .store t (.tmp x) y ∧ x ∈ reads ops o := by
     cases hop' : o.op with
     | alloc t' => rw [hop'] at hk; simp [spK] at hk
     | store t' x' y' =>
      rw [hop'] at hk
      cases x' with
      | tmp x'' =>
       simp only [spK, SpK.st.injEq] at hk
       obtain ⟨rfl, rfl, rfl⟩ := hk
       exact ⟨rfl, hop _ (by rw [hop']; simp [Op.operands])⟩
      | _ => simp [spK] at hk
     | _ => rw [hop'] at hk; simp [spK] at hk
    obtain ⟨hx1, hx2⟩ := hread x hxr hhx
    rw [hlx] at hx1 hx2
    have hin : rS j ∈ ord ∧ off = 0 := by
     rcases hx2 with h1 | ⟨ρ, h1, h2⟩
     ·exfalso
      simp only [RX.inn, decide_eq_true_eq] at h1
      omega
     ·simp only [Value.pointer.injEq, Option.some.injEq, Addr.mk.injEq] at h2
      obtain ⟨e1, e2, _⟩ := h2
      have : rS j = ρ := by omega
      rw [this]
      exact ⟨h1, e2⟩
    obtain ⟨hin, rfl⟩ := hin
    have hidx := List.idxOf_lt_length_of_mem hin
    have hnst : ¬ stored L (rS j) := fun ⟨i, p, t', x', y', hiN, hip, hk', hr, hl⟩ => by
     have := hSi i j p o t' x' y' t x y (tk i p hiN hip) (tk j o hjN ho) hk' hk hr
     subst this
     simp [Array.getD, hL, hlt, hLj] at hl
    have hHr : (σ ++ ord.map (cont L))[σ.length + ord.idxOf (rS j)]? = some (B0 (rS j)) := by
     rw [List.getElem?_append_right (by omega), show σ.length + ord.idxOf (rS j) - σ.length = ord.idxOf (rS j) by omega, List.getElem?_map, List.getElem?_eq_getElem hidx, List.getElem_idxOf hidx]
     simp only [Option.map_some]
     rw [cont_no L _ hnst]
    have hmle := hs.hp.mle
    have hst1 := hsto (σ ++ ord.map (cont L)) (σ.length + ord.idxOf (rS j)) (by omega) hHr
    have hmap : σ ++ ord.map (cont (L.setIfInBounds j true)) = (σ ++ ord.map (cont L)).set (σ.length + ord.idxOf (rS j)) blk1 := by
     apply List.ext_getElem?
     intro i
     by_cases hi1 : i = σ.length + ord.idxOf (rS j)
     ·subst hi1
      rw [List.getElem?_set_self (by omega), List.getElem?_append_right (by omega), show σ.length + ord.idxOf (rS j) - σ.length = ord.idxOf (rS j) by omega, List.getElem?_map, List.getElem?_eq_getElem hidx, List.getElem_idxOf hidx]
      simp only [Option.map_some]
      rw [cont_st _ _ ((storedL _).2 (Or.inr ⟨t, x, y, hk, rfl⟩)), hE1]
      rfl
     ·rw [List.getElem?_set_ne (Ne.symm hi1)]
      by_cases hi2 : i < σ.length
      ·rw [List.getElem?_append_left hi2, List.getElem?_append_left hi2]
      ·rw [List.getElem?_append_right (by omega), List.getElem?_append_right (by omega), List.getElem?_map, List.getElem?_map]
       cases hoi : ord[i - σ.length]? with
       | none => rfl
       | some ρ =>
        simp only [Option.map_some]
        rw [contS ρ fun t' x' y' hk' he => ?_]
        obtain ⟨hl1, hl2⟩ := List.getElem?_eq_some_iff.1 hoi
        have := ind.idxOf_getElem (i - σ.length) hl1
        rw [hl2, ← he] at this
        omega
    let tmR : Env := (x, .pointer (some ⟨σ.length + ord.idxOf (rS j), 0, none⟩)) :: tms j
    have hyx : y ≠ .tmp x := fun he => by
     rw [he] at hpy
     simp only [ev] at hpy
     rw [hlx] at hpy
     simp [plain] at hpy
    have hevx : ev tmR (.tmp x) = .pointer (some ⟨σ.length + ord.idxOf (rS j), 0, none⟩) := by simp [tmR, ev, RX.look, Nat.beq_refl]
    have hevy : ev tmR y = ev (tms j) y ∧ evOk tmR y = evOk (tms j) y := by
     cases y with
     | tmp y' =>
      have hne : Nat.beq x y' = false := by
       cases hb : Nat.beq x y'
       ·rfl
       ·exact absurd (by rw [Nat.eq_of_beq_eq_true hb]) hyx
      simp [tmR, ev, evOk, RX.look, RX.has, hne]
     | _ => exact ⟨rfl, rfl⟩
    have hst2 : step P Φ σ0.length o tmR (σ ++ ord.map (cont L)) (fun v σ' b => some (v, σ', b)) = some (undef, (σ ++ ord.map (cont L)).set (σ.length + ord.idxOf (rS j)) blk1, false) := by
     have hokx : evOk tmR (.tmp x) = true := by simp [tmR, evOk, RX.has, Nat.beq_refl]
     have hall2 : (o.op.operands.toList.all (evOk tmR)) = true := by
      rw [hop']
      simp [Op.operands, hokx, hevy.2, hoy]
     unfold step
     simp only [hall2]
     simp only [hop', hevx, hevy.1, hst1]
    refine Or.inl (step_run (n := n) (β := β') hΦ (K := fun v σ' b => some (v, σ', b)) (r := (undef, (σ ++ ord.map (cont L)).set (σ.length + ord.idxOf (rS j)) blk1, false)) (tm := tmR) ?_ ?_ i3 hst2 ?_)
    ·intro z hz hokz
     rw [hop'] at hz
     simp only [Op.operands] at hz
     have hzz : z = .tmp x ∨ z = y := by simpa using hz
     rcases hzz with rfl | rfl
     ·rw [hevx]
      rw [bT_new] at hx1
      exact hx1
     ·rw [hevy.1, rl_plain hpy]
      cases z with
      | tmp y' =>
       have hyr : y' ∈ reads ops o := hop _ (by rw [hop']; simp [Op.operands])
       have hh : has (tms j) y' = true := hoy
       have := (hread y' hyr hh).1
       simp only [ev] at hpy
       rw [rl_plain hpy] at this
       exact this
      | const v => rfl
      | global g => simp [evOk] at hoy
      | func f => rfl
    ·intro z hz hokz
     rw [hop'] at hz
     simp only [Op.operands] at hz
     have hzz : z = .tmp x ∨ z = y := by simpa using hz
     rcases hzz with rfl | rfl
     ·rw [hevx]
      simp only [RX.inn, decide_eq_true_eq]
      omega
     ·rw [hevy.1]
      exact plain_inn hpy
    ·intro v σ1 kept β'' w' hb hle hpre hv1 hp' hkk
     simp only [Option.some.injEq, Prod.mk.injEq] at hkk
     obtain ⟨rfl, rfl, rfl⟩ := hkk
     obtain ⟨k1, k2⟩ := keep β'' hb
     rw [hk] at next
     have := next w' ord β'' (by rw [hmap]; exact hp') k2 ind (fun ρ => ⟨Or.inl, fun hh => hh.resolve_right fun ⟨t, h1, _⟩ => by cases h1⟩) (fun t x y _ => hin) k1 (by rw [hv]; exact Or.inl rfl)
     rw [hv] at this
     rw [rl_undef] at this
     try rw [rl_undef]
     exact this
 refine wp_region_any hm (main ops.size _ a _ (by simp) (by simp) ⟨hs.fr.size, hs.fr.defers, [], β, ?_, fun _ _ => rfl, List.nodup_nil, fun ρ => ⟨fun hh => by simp at hh, fun ⟨i, o, t, hiN, hi, _, _, hl⟩ => ?_⟩, fun i o t x y hiN hi _ hl => ?_, fun i _ hi => (by simp [Array.getD, hi]), fun i o hiN hi hl => ?_, fun t i o hiN hi ht hl => ?_, fun t htm _ => hs.fr.val t htm, fun i o hi hl => ?_⟩)
 ·simp only [List.map_nil, List.append_nil]
  exact hs.hp.drew
 all_goals
  have hlt : i < ops.size := (Array.getElem?_eq_some_iff.1 hi).1
  simp [Array.getD, hlt] at hl
def spN (ops : Array Oper) : Nat := ((ops.toList.take (preN ops)).filter fun o => isSp o.op).length
end Go.RX
