/- Functions that turn a state of the caller's own: a box with a slice that is read, a place in it and a number. -/
import Derived.Test.YtogpbandlpjccaaGreatDoorRxM
set_option linter.unusedSimpArgs false
set_option linter.unusedVariables false
namespace Go.RX
open Go.RowKit
theorem Hp.puts {σ0 σ : LH} {W w w' : World} {β0 β : Nat → Pl} (h : Hp σ0 W β0 β σ w) {b : Nat} {c c' : Array Value} {t : TypeId} {kb : Nat}
  (hb : σ0.length ≤ b) (hσ : σ[b]? = some (c, t)) (hn : isN c = true) (hc : ∀ v ∈ c'.toList, inn σ.length v = true ∧ v.oneCell' = true) (hkb : (β b).adr = some kb)
  (hw : w'.heap[kb]? = some (.cells (c'.map (rl β)) t (0, 0))) (hsz : w.heap.size ≤ w'.heap.size) (ho : ∀ k, k < w.heap.size → k ≠ kb → w'.heap[k]? = w.heap[k]?) (hbl : Below W.heap.size W w') :
  Hp σ0 W β0 β (σ.set b (c', t)) w' := by
 have hlt : b < σ.length := (List.getElem?_eq_some_iff.1 hσ).1
 have hob := h.own b hb hlt kb hkb
 have hlb : live σ b := live_n hσ hn
 have hne : ∀ i, i < σ.length → live σ i → i ≠ b → ∀ k, (β i).adr = some k → k ≠ kb := by
  intro i hi hl hib k hk he
  subst he
  by_cases hm : i < σ0.length
  ·rw [h.ext i hm] at hk
   have h2 := h.low i hm k hk
   omega
  ·rcases Nat.lt_or_gt_of_ne hib with h1 | h1
   ·exact h.inj i b (by omega) h1 hlt hl hlb k hk hkb
   ·exact h.inj b i hb h1 hi hlb hl k hkb hk
 have hc'n : isN c' = true := by
  unfold isN
  split
  ·rename_i v r
   have := (hc (.tuple v) (by simp)).2
   simp [Value.oneCell'] at this
  ·rfl
 have hliv : ∀ i, live (σ.set b (c', t)) i → live σ i := by
  intro i hl t' he
  by_cases hib : i = b
  ·subst hib; exact hlb t' he
  ·refine hl t' ?_
   rw [List.getElem?_set_ne (Ne.symm hib)]; exact he
 refine ⟨⟨fun i c1 t1 hi hn1 => ?_, fun i c1 t1 hi hn1 v hv => ?_, fun i rows g z t1 hi => ?_⟩, by simpa using h.mle, fun i hi => ?_, h.ext, h.low, fun i h1 h2 => h.own i h1 (by simpa using h2), fun i j h1 h2 h3 l1 l2 => h.inj i j h1 h2 (by simpa using h3) (hliv i l1) (hliv j l2), fun i hi k hk => ?_, hbl⟩
 ·by_cases hib : i = b
  ·subst hib
   rw [List.getElem?_set_self hlt] at hi
   simp only [Option.some.injEq, Prod.mk.injEq] at hi
   obtain ⟨rfl, rfl⟩ := hi
   exact ⟨kb, hkb, hw⟩
  ·rw [List.getElem?_set_ne (Ne.symm hib)] at hi
   have hi' := (List.getElem?_eq_some_iff.1 hi).1
   obtain ⟨k, h1, h2⟩ := h.lies.blk i c1 t1 hi hn1
   refine ⟨k, h1, ?_⟩
   rw [ho k (h.up i hi' k h1) (hne i hi' (live_n hi hn1) hib k h1)]
   exact h2
 ·simp only [List.length_set]
  by_cases hib : i = b
  ·subst hib
   rw [List.getElem?_set_self hlt] at hi
   simp only [Option.some.injEq, Prod.mk.injEq] at hi
   obtain ⟨rfl, rfl⟩ := hi
   exact hc v hv
  ·rw [List.getElem?_set_ne (Ne.symm hib)] at hi
   exact h.lies.sc i c1 t1 hi hn1 v hv
 ·by_cases hib : i = b
  ·subst hib
   rw [List.getElem?_set_self hlt] at hi
   simp only [Option.some.injEq, Prod.mk.injEq] at hi
   rw [hi.1] at hc'n
   simp [isN, lstC] at hc'n
  ·rw [List.getElem?_set_ne (Ne.symm hib)] at hi
   have hi' := (List.getElem?_eq_some_iff.1 hi).1
   refine (h.lies.lst i rows g z t1 hi).mono fun k hk => ?_
   exact ho k (h.up i hi' k hk) (hne i hi' (live_l hi) hib k hk)
 ·rw [List.getElem?_set_ne (by omega)]; exact h.pre i hi
 ·exact Nat.lt_of_lt_of_le (h.up i (by simpa using hi) k hk) hsz
def srcC (c : Nat) (a s : Int) : Array Value := ⟨[.slice (some ⟨c, 0, some 0⟩) 0 0, .int .i64 a, .int .u64 s]⟩
def SrcDoes (P : Program) (g : FuncId) (t : TypeId) (W : World) (z : Value) (e : TypeId) (rows : List Value) (xs : List Value) (a s : Int) (v : Value) (a' s' : Int) : Prop :=
 ∀ (w : World) (gk : Nat) (p : Pl), w.heap[gk]? = some (.cells #[.slice p.ha p.hl p.hc, .int .i64 a, .int .u64 s] t (0, 0)) → W.heap.size ≤ gk → Lst p z rows false e W → (∀ k, p.adr = some k → k < W.heap.size) → Below W.heap.size W w →
  Calls P g (.pointer (some ⟨gk, 0, none⟩) :: xs).toArray w fun en w' => en = .returned v ∧ w'.heap[gk]? = some (.cells #[.slice p.ha p.hl p.hc, .int .i64 a', .int .u64 s'] t (0, 0)) ∧ Below W.heap.size W w' ∧
   w.heap.size ≤ w'.heap.size ∧ ∀ k, k < w.heap.size → k ≠ gk → w'.heap[k]? = w.heap[k]?
theorem srcC_rl {β : Nat → Pl} {c : Nat} {a s : Int} : (srcC c a s).map (rl β) = #[.slice (β c).ha (β c).hl (β c).hc, .int .i64 a, .int .u64 s] := by
 simp [srcC, rl, mvS]
theorem srcDoes_wide {P : Program} {W : World} {m : Nat} {g : FuncId} {t e : TypeId} {z v : Value} {rows xs : List Value} {a s a' s' : Int} {σ : LH} {j c : Nat} {r : Option Nat}
  (hen : ∀ as w, (callFunc g as).run P w = .ok (.enter g as) w) (hj : σ[j]? = some (srcC c a s, t)) (hc : σ[c]? = some (lstC rows false z, e)) (hm : m ≤ j) (hcm : c < m)
  (hxs : xs.all plain = true) (hv : plain v = true) (h : SrcDoes P g t W z e rows xs a s v a' s') :
  GivesW P W m g (.pointer (some ⟨j, 0, none⟩) :: xs) σ v (σ.set j (srcC c a' s', t)) false := by
 refine ⟨hen, fun σ0 β0 β w hl hp ha => ?_⟩
 subst hl
 have hjl := (List.getElem?_eq_some_iff.1 hj).1
 have hn : isN (srcC c a s) = true := rfl
 obtain ⟨kb, hk1, hk2⟩ := hp.lies.blk j _ t hj hn
 rw [srcC_rl] at hk2
 have hlow : ∀ k, (β c).adr = some k → k < W.heap.size := fun k hk => hp.low c hcm k (by rw [← hp.ext c hcm]; exact hk)
 have hL : Lst (β c) z rows false e W := (hp.lies.lst c rows false z e hc).mono fun k hk => (hp.below.block k (hlow k hk)).symm
 have key := h w kb (β c) hk2 (hp.own j hm hjl kb hk1) hL hlow hp.below
 have hblk : (β j).blk = kb := by simp [Pl.blk, hk1]
 have hargs : ((.pointer (some ⟨j, 0, none⟩) :: xs).map (rl β)).toArray = (Value.pointer (some ⟨kb, 0, none⟩) :: xs).toArray := by
  have h2 : xs.map (rl β) = xs := by
   conv => rhs; rw [← List.map_id xs]
   simp only [List.all_eq_true] at hxs
   exact List.map_congr_left fun x hx => by rw [rl_plain (hxs x hx)]; rfl
  rw [List.map_cons, h2]
  simp [rl, mv, hblk]
 rw [hargs]
 refine key.mono ?_
 rintro en w' ⟨rfl, h1, h2, h3, h4⟩
 refine ⟨β, fun _ _ => rfl, by simp, (fun hh => by cases hh), by rw [rl_plain hv], plain_inn hv, ?_⟩
 refine hp.puts (c' := srcC c a' s') hm hj hn ?_ hk1 (by rw [srcC_rl]; exact h1) h3 h4 h2
 intro x hx
 have hcl : c < σ.length := (List.getElem?_eq_some_iff.1 hc).1
 simp only [srcC, List.mem_cons, List.not_mem_nil, or_false] at hx
 rcases hx with rfl | rfl | rfl
 ·exact ⟨by simp [inn, hcl], rfl⟩
 ·exact ⟨rfl, rfl⟩
 ·exact ⟨rfl, rfl⟩
def SrcMakes (P : Program) (g : FuncId) (t : TypeId) (z : Value) (e : TypeId) (rows : List Value) : Prop :=
 ∀ (w : World) (p : Pl), Lst p z rows false e w → Calls P g #[.slice p.ha p.hl p.hc] w fun en w' => ∃ gk, en = .returned (.pointer (some ⟨gk, 0, none⟩)) ∧ w.heap.size ≤ gk ∧
  w'.heap[gk]? = some (.cells #[.slice p.ha p.hl p.hc, .int .i64 0, .int .u64 0] t (0, 0)) ∧ Below w.heap.size w w'
theorem srcMakes_wide {P : Program} {W : World} {m : Nat} {g : FuncId} {t e : TypeId} {z : Value} {rows : List Value} {σ : LH} {c : Nat}
  (hen : ∀ as w, (callFunc g as).run P w = .ok (.enter g as) w) (hc : σ[c]? = some (lstC rows false z, e)) (h : SrcMakes P g t z e rows) :
  GivesW P W m g [.slice (some ⟨c, 0, some 0⟩) 0 0] σ (.pointer (some ⟨σ.length, 0, none⟩)) (σ ++ [(srcC c 0 0, t)]) true := by
 refine ⟨hen, fun σ0 β0 β w hl hp ha => ?_⟩
 have hcl := (List.getElem?_eq_some_iff.1 hc).1
 have hL := hp.lies.lst c rows false z e hc
 have hargs : ([Value.slice (some ⟨c, 0, some 0⟩) 0 0].map (rl β)).toArray = #[.slice (β c).ha (β c).hl (β c).hc] := by simp [rl, mvS]
 rw [hargs]
 refine (h w (β c) hL).mono ?_
 rintro en w' ⟨gk, rfl, h1, h2, h3⟩
 have hlt : gk < w'.heap.size := (Array.getElem?_eq_some_iff.1 h2).1
 obtain ⟨β', k1, k2, k3⟩ := hp.newAt (w' := w') (srcC c 0 0) t ⟨some gk, none, 0, 0, 0⟩ (fun i hi _ k hk => h3.block k (hp.up i hi k hk)) h3.size (hp.below.trans (h3.mono hp.below.size))
  (fun _ => ⟨fun x hx => by
   simp only [srcC, List.mem_cons, List.not_mem_nil, or_false] at hx
   rcases hx with rfl | rfl | rfl
   ·exact ⟨by simp [inn, hcl], rfl⟩
   ·exact ⟨rfl, rfl⟩
   ·exact ⟨rfl, rfl⟩, gk, rfl, by rw [srcC_rl]; exact h2⟩) (fun rows g z he => by simp [srcC, lstC] at he) (fun k hk => by
   simp only [Option.some.injEq] at hk
   subst hk
   exact ⟨Nat.le_trans hp.below.size h1, hlt, fun i hi _ he => by have := hp.up i hi _ he; omega⟩)
 refine ⟨β', k1, by simp, fun _ => ⟨fun i hi => List.getElem?_append_left hi, h3, fun i i1 i2 k hk => ?_⟩, by simp [rl, mv, Pl.blk, k2], by simp [inn], k3⟩
 have : i = σ.length := by simp at i2; omega
 subst this
 rw [k2] at hk
 simp only [Option.some.injEq] at hk
 omega
def entrySN {P : Program} {T : Prem} (g : FuncId) (t : TypeId) (z : Value) (e : TypeId) (p : List Value → Bool)
  (hen : ∀ as w, (callFunc g as).run P w = .ok (.enter g as) w) (h : ∀ rows, p rows = true → SrcMakes P g t z e rows) : EntryU P T where
 g := g
 free := false
 mono h := by cases h
 f _ m args σ K := match args with
  | [.slice (some ⟨c, 0, some 0⟩) 0 0] => (match σ[c]? with
   | some (⟨[.tuple ⟨rows⟩, .bool false, z']⟩, e') => (match Nat.beq e' e && zEq z' z with
    | true => bif p rows then K (.pointer (some ⟨σ.length, 0, none⟩)) (σ ++ [(srcC c 0 0, t)]) true else none
    | false => none)
   | _ => none)
  | _ => none
 ok W hT R m args σ K r hh := by
  split at hh
  case h_2 => simp at hh
  rename_i c
  split at hh
  case h_2 => simp at hh
  rename_i rows z' e' hc
  split at hh
  case h_2 => simp at hh
  rename_i hz
  cases hp : p rows with
  | false => rw [hp] at hh; simp at hh
  | true =>
  rw [hp] at hh
  refine ⟨_, _, _, hh, fun S K' => by simp only [hc, hz, hp, cond_true], Or.inl ?_⟩
  simp only [Bool.and_eq_true] at hz
  exact srcMakes_wide hen (by rw [← Nat.eq_of_beq_eq_true hz.1, ← zEq_eq hz.2]; exact hc) (h rows hp)
def srcOf (m : Nat) (t : TypeId) (z : Value) (e : TypeId) (σ : LH) (x : Value) : Option (Nat × Nat × List Value × Int × Int) := match x with
 | .pointer (some ⟨j, 0, none⟩) => (match σ[j]? with
  | some (⟨[.slice (some ⟨c, 0, some 0⟩) 0 0, .int .i64 a, .int .u64 s]⟩, t') => (match σ[c]? with
   | some (⟨[.tuple ⟨rows⟩, .bool false, z']⟩, e') => (match Nat.ble m j && Nat.blt c m && Nat.beq t' t && Nat.beq e' e && zEq z' z with
    | true => some (j, c, rows, a, s)
    | false => none)
   | _ => none)
  | _ => none)
 | _ => none
theorem srcOf_ok {m : Nat} {t : TypeId} {z : Value} {e : TypeId} {σ : LH} {x : Value} {j c : Nat} {rows : List Value} {a s : Int} (h : srcOf m t z e σ x = some (j, c, rows, a, s)) :
  x = .pointer (some ⟨j, 0, none⟩) ∧ σ[j]? = some (srcC c a s, t) ∧ σ[c]? = some (lstC rows false z, e) ∧ m ≤ j ∧ c < m := by
 unfold srcOf at h
 split at h
 case h_2 => simp at h
 split at h
 case h_2 => simp at h
 rename_i hj
 split at h
 case h_2 => simp at h
 rename_i hc
 split at h
 case h_2 => simp at h
 rename_i hh
 simp only [Bool.and_eq_true] at hh
 obtain ⟨⟨⟨⟨h1, h2⟩, h3⟩, h4⟩, h5⟩ := hh
 simp only [Option.some.injEq, Prod.mk.injEq] at h
 obtain ⟨rfl, rfl, rfl, rfl, rfl⟩ := h
 rw [← Nat.eq_of_beq_eq_true h3, ← Nat.eq_of_beq_eq_true h4, ← zEq_eq h5]
 exact ⟨rfl, hj, hc, Nat.le_of_ble_eq_true h1, Nat.le_of_ble_eq_true h2⟩
def entryS1 {P : Program} {T : Prem} {ρ : Type} (cr : Cod ρ) (g : FuncId) (t : TypeId) (z : Value) (e : TypeId) (F : List Value → Int → Int → ρ × Int × Int) (p : List Value → Int → Int → Bool)
  (hen : ∀ as w, (callFunc g as).run P w = .ok (.enter g as) w) (h : ∀ W rows a s, p rows a s = true → SrcDoes P g t W z e rows [] a s (cr.enc (F rows a s).1) (F rows a s).2.1 (F rows a s).2.2) : EntryU P T where
 g := g
 free := false
 mono h := by cases h
 f _ m args σ K := match args with
  | [x] => (match srcOf m t z e σ x with
   | some (j, c, rows, a, s) => bif p rows a s then K (cr.enc (F rows a s).1) (σ.set j (srcC c (F rows a s).2.1 (F rows a s).2.2, t)) false else none
   | none => none)
  | _ => none
 ok W hT R m args σ K r hh := by
  split at hh
  case h_2 => simp at hh
  rename_i x
  split at hh
  case h_2 => simp at hh
  rename_i j c rows a s hs
  cases hp : p rows a s with
  | false => rw [hp] at hh; simp at hh
  | true =>
  rw [hp] at hh
  refine ⟨_, _, _, hh, fun S K' => by simp only [hs, hp, cond_true], Or.inl ?_⟩
  obtain ⟨rfl, h1, h2, h3, h4⟩ := srcOf_ok hs
  exact srcDoes_wide (r := none) hen h1 h2 h3 h4 rfl (cr.plain _) (h W rows a s hp)
end Go.RX
