/- At a loop's head: what is not named any more is dropped, and a slice that is nil is a list without elements. -/
import Derived.Test.YtogpbandlpjccaaGreatDoorRxH
set_option linter.unusedSimpArgs false
set_option linter.unusedVariables false
namespace Go.RX
open Go.RowKit
def nm0 (i : Nat) : Value → Bool
 | .pointer (some a) => Nat.beq a.block i
 | .slice (some a) _ _ => Nat.beq a.block i
 | _ => false
def nm (i : Nat) : Value → Bool
 | .pointer (some a) => Nat.beq a.block i
 | .slice (some a) _ _ => Nat.beq a.block i
 | .func _ a b => a.toList.any (nm0 i) || b.toList.any (nm0 i)
 | .tuple vs => vs.toList.any (nm0 i)
 | _ => false
def dnA (i : Nat) (a : Addr) : Addr := match Nat.ble a.block i with | true => a | false => ⟨a.block - 1, a.off, a.spot⟩
def dn0 (i : Nat) : Value → Value
 | .pointer (some a) => .pointer (some (dnA i a))
 | .slice (some a) l c => .slice (some (dnA i a)) l c
 | v => v
def dn (i : Nat) : Value → Value
 | .pointer (some a) => .pointer (some (dnA i a))
 | .slice (some a) l c => .slice (some (dnA i a)) l c
 | .func fn a b => .func fn ⟨a.toList.map (dn0 i)⟩ ⟨b.toList.map (dn0 i)⟩
 | .tuple vs => .tuple ⟨vs.toList.map (dn0 i)⟩
 | v => v
def dnB (i : Nat) (b : Blk) : Blk := match isN b.1 with | true => (⟨b.1.toList.map (dn i)⟩, b.2) | false => b
def used (i : Nat) (tm : Env) (σ : LH) : Bool := (tm.any fun p => nm i p.2) || σ.any fun b => isN b.1 && b.1.toList.any (nm i)
def drop1 (i : Nat) (tm : Env) (σ : LH) : Env × LH := (tm.map fun p => (p.1, dn i p.2), (σ.eraseIdx i).map (dnB i))
def lowOk (m i : Nat) (σ : LH) : Bool := (σ.take m).all fun b => !isN b.1 || b.1.toList.all (inn i)
def gcL (m : Nat) : Nat → Env → LH → Env × LH
 | 0, tm, σ => (tm, σ)
 | k + 1, tm, σ => match (Nat.ble m k && lowOk m k σ) && !(used k tm σ) with
  | true => (match drop1 k tm σ with | (tm', σ') => gcL m k tm' σ')
  | false => gcL m k tm σ
def shB (i : Nat) (β : Nat → Pl) (j : Nat) : Pl := if j < i then β j else β (j + 1)
theorem shB_dnA {i : Nat} {β : Nat → Pl} {a : Addr} (h : Nat.beq a.block i = false) : shB i β (dnA i a).block = β a.block ∧ (dnA i a).off = a.off ∧ (dnA i a).spot = a.spot := by
 have hne : a.block ≠ i := fun he => by rw [he, Nat.beq_refl] at h; cases h
 unfold dnA shB
 split
 ·rename_i hb
  have := Nat.le_of_ble_eq_true hb
  exact ⟨by rw [if_pos (by omega)], rfl, rfl⟩
 ·rename_i hb
  have : ¬ a.block ≤ i := fun hl => by rw [Nat.ble_eq_true_of_le hl] at hb; cases hb
  refine ⟨?_, rfl, rfl⟩
  show (if a.block - 1 < i then β (a.block - 1) else β (a.block - 1 + 1)) = _
  rw [if_neg (by omega), show a.block - 1 + 1 = a.block by omega]
theorem rl0_dn {i : Nat} {β : Nat → Pl} {v : Value} (h : nm0 i v = false) : rl0 (shB i β) (dn0 i v) = rl0 β v := by
 cases v with
 | pointer a => cases a with
  | none => rfl
  | some a => obtain ⟨h1, h2, h3⟩ := shB_dnA (β := β) h; simp [rl0, dn0, mv, h1, h2, h3]
 | slice a l c => cases a with
  | none => rfl
  | some a => obtain ⟨h1, h2, h3⟩ := shB_dnA (β := β) h; simp [rl0, dn0, mvS, h1, h2, h3]
 | _ => rfl
theorem rl_dn {i : Nat} {β : Nat → Pl} {v : Value} (h : nm i v = false) : rl (shB i β) (dn i v) = rl β v := by
 cases v with
 | pointer a => cases a with
  | none => rfl
  | some a => obtain ⟨h1, h2, h3⟩ := shB_dnA (β := β) h; simp [rl, dn, mv, h1, h2, h3]
 | slice a l c => cases a with
  | none => rfl
  | some a => obtain ⟨h1, h2, h3⟩ := shB_dnA (β := β) h; simp [rl, dn, mvS, h1, h2, h3]
 | func fn a b =>
  simp only [nm, Bool.or_eq_false_iff, List.any_eq_false] at h
  simp only [dn, rl]
  congr 1
  ·apply Array.ext'
   simp only [Array.toList_map, List.map_map]
   exact List.map_congr_left fun x hx => rl0_dn (by simpa using h.1 x hx)
  ·apply Array.ext'
   simp only [Array.toList_map, List.map_map]
   exact List.map_congr_left fun x hx => rl0_dn (by simpa using h.2 x hx)
 | tuple vs =>
  simp only [nm, List.any_eq_false] at h
  simp only [dn, rl]
  congr 1
  apply Array.ext'
  simp only [Array.toList_map, List.map_map]
  exact List.map_congr_left fun x hx => rl0_dn (by simpa using h x hx)
 | _ => rfl
theorem dnA_lt {i n : Nat} {a : Addr} (h : Nat.beq a.block i = false) (hl : a.block < n) (hi : i < n) : (dnA i a).block < n - 1 := by
 have hne : a.block ≠ i := fun he => by rw [he, Nat.beq_refl] at h; cases h
 unfold dnA
 split
 ·rename_i hb
  have := Nat.le_of_ble_eq_true hb
  omega
 ·show a.block - 1 < n - 1
  rename_i hb
  have : ¬ a.block ≤ i := fun hl => by rw [Nat.ble_eq_true_of_le hl] at hb; cases hb
  omega
theorem inn_dn0 {i n : Nat} {v : Value} (h : nm0 i v = false) (hv : sc0 n v = true) (hi : i < n) : sc0 (n - 1) (dn0 i v) = true := by
 cases v with
 | pointer a => cases a with
  | none => rfl
  | some a => simp only [sc0, dn0, decide_eq_true_eq] at *; exact dnA_lt h hv hi
 | slice a l c => cases a with
  | none => rfl
  | some a => simp only [sc0, dn0, decide_eq_true_eq] at *; exact dnA_lt h hv hi
 | _ => rfl
theorem inn_dn {i n : Nat} {v : Value} (h : nm i v = false) (hv : inn n v = true) (hi : i < n) : inn (n - 1) (dn i v) = true := by
 cases v with
 | pointer a => cases a with
  | none => rfl
  | some a => simp only [inn, dn, decide_eq_true_eq] at *; exact dnA_lt h hv hi
 | slice a l c => cases a with
  | none => rfl
  | some a => simp only [inn, dn, decide_eq_true_eq] at *; exact dnA_lt h hv hi
 | func fn a b =>
  simp only [nm, Bool.or_eq_false_iff, List.any_eq_false] at h
  simp only [inn, dn, Bool.and_eq_true, List.all_eq_true, List.mem_map, forall_exists_index, and_imp, forall_apply_eq_imp_iff₂] at *
  exact ⟨fun x hx => inn_dn0 (by simpa using h.1 x hx) (hv.1 x hx) hi, fun x hx => inn_dn0 (by simpa using h.2 x hx) (hv.2 x hx) hi⟩
 | tuple vs =>
  simp only [nm, List.any_eq_false] at h
  simp only [inn, dn, List.all_eq_true, List.mem_map, forall_exists_index, and_imp, forall_apply_eq_imp_iff₂] at *
  exact fun x hx => inn_dn0 (by simpa using h x hx) (hv x hx) hi
 | _ => rfl
theorem dn_one {i : Nat} {v : Value} : (dn i v).oneCell' = v.oneCell' := by
 cases v with
 | pointer a => cases a <;> rfl
 | slice a l c => cases a <;> rfl
 | _ => rfl
theorem isN_map {i : Nat} {c : List Value} : isN ⟨c.map (dn i)⟩ = isN ⟨c⟩ := by
 cases c with
 | nil => rfl
 | cons v r =>
  cases v with
  | pointer a => cases a <;> rfl
  | slice a l c => cases a <;> rfl
  | _ => rfl
theorem dnB_isN {i : Nat} {b : Blk} : isN (dnB i b).1 = isN b.1 := by
 unfold dnB
 split
 ·exact isN_map
 ·rfl
theorem dnB_not {i : Nat} {b : Blk} (h : isN b.1 = false) : dnB i b = b := by unfold dnB; rw [h]
theorem dnB_yes {i : Nat} {b : Blk} (h : isN b.1 = true) : dnB i b = (⟨b.1.toList.map (dn i)⟩, b.2) := by unfold dnB; rw [h]
theorem look_dn {i : Nat} (tm : Env) (t : Nat) : look (tm.map fun p => (p.1, dn i p.2)) t = dn i (look tm t) ∧ has (tm.map fun p => (p.1, dn i p.2)) t = has tm t := by
 induction tm with
 | nil => exact ⟨rfl, rfl⟩
 | cons p r ih =>
  obtain ⟨k, v⟩ := p
  simp only [List.map_cons, look, has]
  cases Nat.beq k t with
  | true => exact ⟨rfl, rfl⟩
  | false => exact ih
theorem nm_look {i : Nat} {tm : Env} (h : ∀ p ∈ tm, nm i p.2 = false) (t : Nat) : nm i (look tm t) = false := by
 induction tm with
 | nil => rfl
 | cons p r ih =>
  obtain ⟨k, v⟩ := p
  simp only [look]
  split
  ·exact h (k, v) (by simp)
  ·exact ih fun q hq => h q (by simp [hq])
theorem dn0_low {i : Nat} {v : Value} (h : sc0 i v = true) : dn0 i v = v := by
 have key : ∀ a : Addr, a.block < i → dnA i a = a := fun a ha => by
  unfold dnA
  rw [Nat.ble_eq_true_of_le (Nat.le_of_lt ha)]
 cases v with
 | pointer a => cases a with
  | none => rfl
  | some a => simp only [sc0, decide_eq_true_eq] at h; simp [dn0, key a h]
 | slice a l c => cases a with
  | none => rfl
  | some a => simp only [sc0, decide_eq_true_eq] at h; simp [dn0, key a h]
 | _ => rfl
theorem dn_low {i : Nat} {v : Value} (h : inn i v = true) : dn i v = v := by
 have key : ∀ a : Addr, a.block < i → dnA i a = a := fun a ha => by
  unfold dnA
  rw [Nat.ble_eq_true_of_le (Nat.le_of_lt ha)]
 cases v with
 | pointer a => cases a with
  | none => rfl
  | some a => simp only [inn, decide_eq_true_eq] at h; simp [dn, key a h]
 | slice a l c => cases a with
  | none => rfl
  | some a => simp only [inn, decide_eq_true_eq] at h; simp [dn, key a h]
 | func fn a b =>
  simp only [inn, Bool.and_eq_true, List.all_eq_true] at h
  simp only [dn]
  congr 1
  ·apply Array.ext'
   show a.toList.map (dn0 i) = a.toList
   conv => rhs; rw [← List.map_id a.toList]
   exact List.map_congr_left fun x hx => dn0_low (h.1 x hx)
  ·apply Array.ext'
   show b.toList.map (dn0 i) = b.toList
   conv => rhs; rw [← List.map_id b.toList]
   exact List.map_congr_left fun x hx => dn0_low (h.2 x hx)
 | tuple vs =>
  simp only [inn, List.all_eq_true] at h
  simp only [dn]
  congr 1
  apply Array.ext'
  show vs.toList.map (dn0 i) = vs.toList
  conv => rhs; rw [← List.map_id vs.toList]
  exact List.map_congr_left fun x hx => dn0_low (h x hx)
 | _ => rfl
theorem St.drop1 {σ0 σ : LH} {W w : World} {β0 β βb : Nat → Pl} {n nb : Nat} {tm : Env} {a : Act} (h : St σ0 W β0 n nb βb β tm σ a w) {i : Nat} (hm : σ0.length ≤ i) (hi : i < σ.length) (hnb : nb ≤ σ0.length) (hlo : lowOk σ0.length i σ = true) (hu : used i tm σ = false) :
  ∃ β', St σ0 W β0 n nb βb β' (drop1 i tm σ).1 (drop1 i tm σ).2 a w := by
 simp only [used, Bool.or_eq_false_iff, List.any_eq_false, Bool.and_eq_true, not_and, Bool.not_eq_true] at hu
 obtain ⟨hu1, hu2⟩ := hu
 have hlen : ((σ.eraseIdx i).map (dnB i)).length = σ.length - 1 := by rw [List.length_map, List.length_eraseIdx, if_pos hi]
 have hget : ∀ (j : Nat) (b : Blk), ((σ.eraseIdx i).map (dnB i))[j]? = some b → ∃ b0, σ[if j < i then j else j + 1]? = some b0 ∧ b = dnB i b0 := by
  intro j b hj
  rw [List.getElem?_map, List.getElem?_eraseIdx] at hj
  split at hj
  ·rename_i hlt
   rw [if_pos hlt]
   cases hb : σ[j]? with
   | none => rw [hb] at hj; simp at hj
   | some b0 => rw [hb] at hj; simp at hj; exact ⟨b0, rfl, hj.symm⟩
  ·rename_i hlt
   rw [if_neg hlt]
   cases hb : σ[j + 1]? with
   | none => rw [hb] at hj; simp at hj
   | some b0 => rw [hb] at hj; simp at hj; exact ⟨b0, rfl, hj.symm⟩
 have hget' : ∀ (j : Nat), ((σ.eraseIdx i).map (dnB i))[j]? = (σ[if j < i then j else j + 1]?).map (dnB i) := by
  intro j
  rw [List.getElem?_map, List.getElem?_eraseIdx]
  split <;> rfl
 have hsh : ∀ j, shB i β j = β (if j < i then j else j + 1) := fun j => by unfold shB; split <;> rfl
 have hnmc : ∀ (b : Blk), b ∈ σ → isN b.1 = true → ∀ v ∈ b.1.toList, nm i v = false := fun b hb hn v hv => by
  have := hu2 b hb hn
  exact this v hv
 have hlive : ∀ j, live ((σ.eraseIdx i).map (dnB i)) j → live σ (if j < i then j else j + 1) := by
  intro j hl t he
  refine hl t ?_
  rw [hget', he]
  simp [dnB, isN, deadC]
 have hmn := h.hp.mle
 refine ⟨shB i β, ⟨h.fr.size, fun t ht => ?_, h.fr.defers⟩, fun p hp => ?_, ⟨⟨fun j c t hj hn => ?_, fun j c t hj hn v hv => ?_, fun j rows g z t hj => ?_⟩, ?_, fun j hj => ?_, fun j hj => ?_, h.hp.low, fun j h1 h2 => ?_, fun j k h1 h2 h3 l1 l2 => ?_, fun j hj => ?_, h.hp.below⟩, ?_, fun j hj => ?_⟩
 ·have ht' : has tm t = true := by rw [← (look_dn tm t).2]; exact ht
  show _ = rl (shB i β) (look (tm.map fun p => (p.1, dn i p.2)) t)
  rw [(look_dn tm t).1, rl_dn (nm_look (fun p hp => by simpa using hu1 p hp) t)]
  exact h.fr.val t ht'
 ·simp only [RX.drop1, List.mem_map] at hp
  obtain ⟨q, hq, rfl⟩ := hp
  show inn ((σ.eraseIdx i).map (dnB i)).length _ = true
  rw [hlen]
  exact inn_dn (by simpa using hu1 q hq) (h.env q hq) hi
 ·obtain ⟨b0, hb0, hb1⟩ := hget j _ hj
  have hn0 : isN b0.1 = true := by rw [← dnB_isN (i := i), ← hb1]; exact hn
  rw [dnB_yes hn0] at hb1
  simp only [Prod.mk.injEq] at hb1
  obtain ⟨rfl, rfl⟩ := hb1
  obtain ⟨k, h1, h2⟩ := h.hp.lies.blk _ b0.1 b0.2 hb0 hn0
  refine ⟨k, by rw [hsh]; exact h1, ?_⟩
  rw [h2]
  congr 2
  apply Array.ext'
  simp only [Array.toList_map, List.map_map]
  exact List.map_congr_left fun v hv => (rl_dn (hnmc b0 (List.mem_of_getElem? hb0) hn0 v hv)).symm
 ·obtain ⟨b0, hb0, hb1⟩ := hget j _ hj
  have hn0 : isN b0.1 = true := by rw [← dnB_isN (i := i), ← hb1]; exact hn
  rw [dnB_yes hn0] at hb1
  simp only [Prod.mk.injEq] at hb1
  obtain ⟨rfl, rfl⟩ := hb1
  simp only [List.mem_map] at hv
  obtain ⟨u, hu, rfl⟩ := hv
  have := h.hp.lies.sc _ b0.1 b0.2 hb0 hn0 u hu
  show inn ((σ.eraseIdx i).map (dnB i)).length _ = true ∧ _
  rw [hlen, dn_one]
  exact ⟨inn_dn (hnmc b0 (List.mem_of_getElem? hb0) hn0 u hu) this.1 hi, this.2⟩
 ·obtain ⟨b0, hb0, hb1⟩ := hget j _ hj
  have hn0 : isN b0.1 = false := by rw [← dnB_isN (i := i), ← hb1]; rfl
  rw [dnB_not hn0] at hb1
  subst hb1
  rw [hsh]
  exact h.hp.lies.lst _ rows g z t hb0
 ·show σ0.length ≤ ((σ.eraseIdx i).map (dnB i)).length
  rw [hlen]; omega
 ·show ((σ.eraseIdx i).map (dnB i))[j]? = _
  rw [hget', if_pos (by omega), h.hp.pre j hj, ← h.hp.pre j hj]
  cases hb : σ[j]? with
  | none => rfl
  | some b =>
   have hjlt : j < i := by omega
   simp only [Option.map_some, Option.some.injEq]
   unfold dnB
   split
   ·rename_i hn
    apply Prod.ext
    ·apply Array.ext'
     show b.1.toList.map (dn i) = b.1.toList
     conv => rhs; rw [← List.map_id b.1.toList]
     refine List.map_congr_left fun v hv => ?_
     simp only [lowOk, List.all_eq_true, Bool.or_eq_true, Bool.not_eq_true'] at hlo
     have hmem : b ∈ σ.take σ0.length := List.mem_of_getElem? (i := j) (by rw [List.getElem?_take_of_lt hj]; exact hb)
     rcases hlo b hmem with h1 | h1
     ·rw [hn] at h1; cases h1
     ·exact dn_low (h1 v hv)
    ·rfl
   ·rfl
 ·rw [hsh, if_pos (by omega)]; exact h.hp.ext j hj
 ·have h2' : j < ((σ.eraseIdx i).map (dnB i)).length := h2
  rw [hlen] at h2'
  rw [hsh]
  exact h.hp.own _ (by split <;> omega) (by split <;> omega)
 ·have h3' : k < ((σ.eraseIdx i).map (dnB i)).length := h3
  rw [hlen] at h3'
  rw [hsh, hsh]
  exact h.hp.inj _ _ (by split <;> omega) (by split <;> split <;> omega) (by split <;> omega) (hlive j l1) (hlive k l2)
 ·have hj' : j < ((σ.eraseIdx i).map (dnB i)).length := hj
  rw [hlen] at hj'
  rw [hsh]
  exact h.hp.up _ (by split <;> omega)
 ·show nb ≤ ((σ.eraseIdx i).map (dnB i)).length
  rw [hlen]; omega
 ·rw [hsh, if_pos (by omega)]; exact h.bext j hj
theorem St.gc {σ0 : LH} {W w : World} {β0 βb : Nat → Pl} {n nb : Nat} {a : Act} (hnb : nb ≤ σ0.length) : ∀ (k : Nat) (tm : Env) (σ : LH) (β : Nat → Pl), St σ0 W β0 n nb βb β tm σ a w → k ≤ σ.length →
  ∃ β', St σ0 W β0 n nb βb β' (gcL σ0.length k tm σ).1 (gcL σ0.length k tm σ).2 a w := by
 intro k
 induction k with
 | zero => intro tm σ β h _; exact ⟨β, h⟩
 | succ k ih =>
  intro tm σ β h hk
  simp only [gcL]
  split
  ·rename_i hc
   simp only [Bool.and_eq_true, Bool.not_eq_true'] at hc
   obtain ⟨β', h1⟩ := h.drop1 (Nat.le_of_ble_eq_true hc.1.1) (by omega) hnb hc.1.2 hc.2
   refine ih _ _ β' h1 ?_
   simp only [RX.drop1, List.length_map, List.length_eraseIdx, if_pos (show k < σ.length by omega)]
   omega
  ·exact ih tm σ β h (by omega)
theorem Hp.recell {σ0 σ : LH} {W w : World} {β0 β : Nat → Pl} (h : Hp σ0 W β0 β σ w) {b : Nat} {c c' : Array Value} {t : TypeId} (hb : σ0.length ≤ b) (hσ : σ[b]? = some (c, t)) (hn : isN c = true) (hn' : isN c' = true)
  (hc : c'.map (rl β) = c.map (rl β)) (hi : ∀ v ∈ c'.toList, inn σ.length v = true ∧ v.oneCell' = true) : Hp σ0 W β0 β (σ.set b (c', t)) w := by
 have hlt : b < σ.length := (List.getElem?_eq_some_iff.1 hσ).1
 have hget : ∀ (i : Nat) (c1 : Array Value) (t1 : TypeId), (σ.set b (c', t))[i]? = some (c1, t1) → (i = b ∧ c1 = c' ∧ t1 = t) ∨ (i ≠ b ∧ σ[i]? = some (c1, t1)) := by
  intro i c1 t1 he
  by_cases hib : i = b
  ·subst hib
   rw [List.getElem?_set_self hlt] at he
   simp only [Option.some.injEq, Prod.mk.injEq] at he
   exact .inl ⟨rfl, he.1.symm, he.2.symm⟩
  ·rw [List.getElem?_set_ne (Ne.symm hib)] at he
   exact .inr ⟨hib, he⟩
 have hliv : ∀ i, live (σ.set b (c', t)) i → live σ i := by
  intro i hl t' he
  by_cases hib : i = b
  ·subst hib
   exact live_n hσ hn t' he
  ·refine hl t' ?_
   rw [List.getElem?_set_ne (Ne.symm hib)]; exact he
 refine ⟨⟨fun i c1 t1 he hn1 => ?_, fun i c1 t1 he hn1 v hv => ?_, fun i rows g z t1 he => ?_⟩, by simpa using h.mle, fun i hi => ?_, h.ext, h.low, fun i h1 h2 => h.own i h1 (by simpa using h2), fun i j h1 h2 h3 l1 l2 => h.inj i j h1 h2 (by simpa using h3) (hliv i l1) (hliv j l2), fun i hi => h.up i (by simpa using hi), h.below⟩
 ·rcases hget i c1 t1 he with ⟨rfl, rfl, rfl⟩ | ⟨_, he⟩
  ·rw [hc]; exact h.lies.blk _ c _ hσ hn
  ·exact h.lies.blk i c1 t1 he hn1
 ·rw [List.length_set]
  rcases hget i c1 t1 he with ⟨rfl, rfl, rfl⟩ | ⟨_, he⟩
  ·exact hi v hv
  ·exact h.lies.sc i c1 t1 he hn1 v hv
 ·rcases hget i _ t1 he with ⟨rfl, h2, rfl⟩ | ⟨_, he⟩
  ·rw [← h2] at hn'; simp [isN, lstC] at hn'
  ·exact h.lies.lst i rows g z t1 he
 ·rw [List.getElem?_set_ne (by omega)]; exact h.pre i hi
def ghK (P : Program) (t : TypeId) : Option (TypeId × Value) := match pv P (underlying t) with
 | some (.slice e) => (match pv P (zeroValue e) with
  | some z => (match Nat.blt 0 z.cells.size with
   | true => some (e, z)
   | false => none)
  | none => none)
 | _ => none
def ghL (P : Program) (m : Nat) : Nat → LH → LH
 | 0, σ => σ
 | k + 1, σ => match Nat.ble m k with
  | true => (match σ[k]? with
   | some (⟨[.slice none 0 0]⟩, t) => (match ghK P t with
    | some (e, z) => ghL P m k (σ.set k (⟨[hdrV σ.length]⟩, t) ++ [(lstC [] true z, e)])
    | none => ghL P m k σ)
   | _ => ghL P m k σ)
  | false => ghL P m k σ
theorem Hp.ghost {σ0 σ : LH} {W w : World} {β0 β : Nat → Pl} (h : Hp σ0 W β0 β σ w) {b : Nat} {t e : TypeId} {z : Value} (hb : σ0.length ≤ b) (hσ : σ[b]? = some (⟨[.slice none 0 0]⟩, t)) (hz : 0 < z.cells.size) :
  ∃ β', (∀ i, i < σ.length → β' i = β i) ∧ Hp σ0 W β0 β' (σ.set b (⟨[hdrV σ.length]⟩, t) ++ [(lstC [] true z, e)]) w := by
 have hlt : b < σ.length := (List.getElem?_eq_some_iff.1 hσ).1
 obtain ⟨β', h1, h2, h3⟩ := h.newAt (w' := w) (lstC [] true z) e ⟨none, none, 0, 0, z.cells.size⟩ (fun _ _ _ _ _ => rfl) (Nat.le_refl _) h.below (fun hh => by simp [isN, lstC] at hh) (fun rows g z' he => by
   simp only [lstC, Array.mk.injEq, List.cons.injEq, Value.tuple.injEq, Value.bool.injEq, and_true] at he
   obtain ⟨rfl, rfl, rfl⟩ := he
   refine ⟨rfl, fun r hr => by simp [inOrder] at hr, hz, Nat.le_refl _, rfl, .inl ⟨rfl, by simp [inOrder], fun _ => ⟨rfl, rfl⟩⟩, fun _ => ⟨by simp [inOrder, flat], .inl ⟨rfl, by simp [inOrder]⟩⟩⟩) (fun k hk => by simp at hk)
 refine ⟨β', h1, ?_⟩
 have hσ' : (σ ++ [(lstC [] true z, e)])[b]? = some (⟨[.slice none 0 0]⟩, t) := by rw [List.getElem?_append_left hlt]; exact hσ
 have := h3.recell (c' := ⟨[hdrV σ.length]⟩) hb hσ' rfl rfl (by simp [hdrV, rl, mvS, h2]) (fun v hv => by
  simp only [List.mem_singleton] at hv
  subst hv
  exact ⟨by simp [hdrV, inn], rfl⟩)
 rw [List.set_append_left _ _ hlt] at this
 exact this
theorem St.ghost {P : Program} {σ0 : LH} {W w : World} {β0 βb : Nat → Pl} {n nb : Nat} {tm : Env} {a : Act} : ∀ (k : Nat) (σ : LH) (β : Nat → Pl), St σ0 W β0 n nb βb β tm σ a w →
  ∃ β', St σ0 W β0 n nb βb β' tm (ghL P σ0.length k σ) a w := by
 intro k
 induction k with
 | zero => intro σ β h; exact ⟨β, h⟩
 | succ k ih =>
  intro σ β h
  simp only [ghL]
  split
  ·rename_i hm
   split
   ·rename_i t hσ
    split
    ·rename_i e z hg
     have hz : 0 < z.cells.size := by
      unfold ghK at hg
      (repeat' split at hg) <;> first | (simp at hg; done) | skip
      rename_i hb
      simp only [Option.some.injEq, Prod.mk.injEq] at hg
      rw [← hg.2]
      exact Nat.le_of_ble_eq_true hb
     obtain ⟨β', h1, h2⟩ := h.hp.ghost (e := e) (Nat.le_of_ble_eq_true hm) hσ hz
     refine ih _ β' ⟨h.fr.ext h.env h1, fun p hp => inn_mono (by simp) (h.env p hp), h2, by simp; have := h.nle; omega, fun i hi => by rw [h1 i (by have := h.nle; omega)]; exact h.bext i hi⟩
    ·exact ih σ β h
   ·exact ih σ β h
  ·exact ih σ β h
def ghE (P : Program) (e : TypeId) : Option Value := match pv P (zeroValue e) with
 | some z => (match Nat.blt 0 z.cells.size with
  | true => some z
  | false => none)
 | none => none
def putT (t : Nat) (v : Value) (tm : Env) : Env := tm.map fun p => match Nat.beq p.1 t with | true => (p.1, v) | false => p
def hintsOf (ls : Option (List Nat)) : List (Nat × Nat) := (ls.getD []).filterMap fun h => bif Nat.ble 3000000 h then some ((h - 3000000) % 1000, (h - 3000000) / 1000) else none
def isNil : Value → Bool
 | .slice none l c => Nat.beq l 0 && Nat.beq c 0
 | _ => false
theorem isNil_eq {v : Value} (h : isNil v = true) : v = .slice none 0 0 := by
 unfold isNil at h
 split at h
 ·rename_i l c
  simp only [Bool.and_eq_true] at h
  rw [Nat.eq_of_beq_eq_true h.1, Nat.eq_of_beq_eq_true h.2]
 ·simp at h
def ghT (P : Program) : List (Nat × Nat) → Env → LH → Env × LH
 | [], tm, σ => (tm, σ)
 | h :: r, tm, σ => match has tm h.1 && isNil (look tm h.1) with
  | true => (match ghE P h.2 with
   | some z => ghT P r (putT h.1 (hdrV σ.length) tm) (σ ++ [(lstC [] true z, h.2)])
   | none => ghT P r tm σ)
  | false => ghT P r tm σ
theorem look_putT {t : Nat} {v : Value} (tm : Env) (u : Nat) : has (putT t v tm) u = has tm u ∧ (has tm u = true → look (putT t v tm) u = if u = t then v else look tm u) := by
 induction tm with
 | nil => exact ⟨rfl, fun h => by cases h⟩
 | cons p r ih =>
  obtain ⟨k, x⟩ := p
  simp only [putT, List.map_cons] at ih ⊢
  cases hkt : Nat.beq k t with
  | true =>
   have := Nat.eq_of_beq_eq_true hkt
   subst this
   simp only [has, look]
   cases hku : Nat.beq k u with
   | true =>
    have := Nat.eq_of_beq_eq_true hku
    exact ⟨rfl, fun _ => by rw [if_pos this.symm]⟩
   | false => exact ih
  | false =>
   simp only [has, look]
   cases hku : Nat.beq k u with
   | true =>
    have := Nat.eq_of_beq_eq_true hku
    subst this
    refine ⟨rfl, fun _ => ?_⟩
    rw [if_neg]
    intro he
    rw [he, Nat.beq_refl] at hkt
    cases hkt
   | false => exact ih
theorem St.ghostT {P : Program} {σ0 : LH} {W w : World} {β0 βb : Nat → Pl} {n nb : Nat} {a : Act} : ∀ (l : List (Nat × Nat)) (tm : Env) (σ : LH) (β : Nat → Pl), St σ0 W β0 n nb βb β tm σ a w →
  ∃ β', St σ0 W β0 n nb βb β' (ghT P l tm σ).1 (ghT P l tm σ).2 a w := by
 intro l
 induction l with
 | nil => intro tm σ β h; exact ⟨β, h⟩
 | cons x r ih =>
  intro tm σ β h
  obtain ⟨tt, ee⟩ := x
  rw [ghT]
  simp only []
  split
  ·rename_i hc
   simp only [Bool.and_eq_true] at hc
   have h2 := isNil_eq hc.2
   ·split
    ·rename_i z hz
     have hz0 : 0 < z.cells.size := by
      unfold ghE at hz
      (repeat' split at hz) <;> first | (simp at hz; done) | skip
      rename_i hb
      simp only [Option.some.injEq] at hz
      rw [← hz]
      exact Nat.le_of_ble_eq_true hb
     obtain ⟨β', q1, q2, q3⟩ := h.hp.newAt (w' := w) (lstC [] true z) ee ⟨none, none, 0, 0, z.cells.size⟩ (fun _ _ _ _ _ => rfl) (Nat.le_refl _) h.hp.below (fun hh => by simp [isN, lstC] at hh) (fun rows g z' he => by
      simp only [lstC, Array.mk.injEq, List.cons.injEq, Value.tuple.injEq, Value.bool.injEq, and_true] at he
      obtain ⟨rfl, rfl, rfl⟩ := he
      refine ⟨rfl, fun r hr => by simp [inOrder] at hr, hz0, Nat.le_refl _, rfl, .inl ⟨rfl, by simp [inOrder], fun _ => ⟨rfl, rfl⟩⟩, fun _ => ⟨by simp [inOrder, flat], .inl ⟨rfl, by simp [inOrder]⟩⟩⟩) (fun k hk => by simp at hk)
     have hf := h.fr.ext h.env q1
     refine ih _ _ β' ⟨⟨hf.size, fun u hu => ?_, hf.defers⟩, fun p hp => ?_, q3, by simp; have := h.nle; omega, fun i hi => by rw [q1 i (by have := h.nle; omega)]; exact h.bext i hi⟩
     ·rw [(look_putT tm u).1] at hu
      rw [(look_putT tm u).2 hu, hf.val u hu]
      split
      ·rename_i he
       subst he
       rw [h2]
       simp [hdrV, rl, mvS, q2]
      ·rfl
     ·simp only [putT, List.mem_map] at hp
      obtain ⟨q, hq, rfl⟩ := hp
      split
      ·simp [hdrV, inn]
      ·exact inn_mono (by simp) (h.env q hq)
    ·exact ih tm σ β h
  ·exact ih tm σ β h
def restr (ls : Option (List Nat)) (tm : Env) : Env :=
 match ls with
 | none => tm
 | some l => (l.filter (has tm)).map fun t => (t, look tm t)
def gcOn (ls : Option (List Nat)) : Bool := match ls with
 | none => false
 | some l => l.any (Nat.beq 1000000)
def norm (P : Program) (m : Nat) (ls : Option (List Nat)) (tm : Env) (σ : LH) : Env × LH := match gcOn ls with
 | false => (restr ls tm, σ)
 | true => (match ghT P (hintsOf ls) (restr ls tm) (ghL P m σ.length σ) with | (tm', σ') => gcL m σ'.length tm' σ')
end Go.RX
